/- Words for memory that the walks of this seat use: slices that read as lists of records. -/
import Derived.Test.YtjojjicpdfmopaaGreatDoorProg
import Derived.WalkKit
import Derived.WalkSpells
import Derived.WalkLawsBesides
import Derived.Deep.Draws
namespace Go.Proofs.YtjojjicpdfmopaaGreatDoor
open Go Go.RowKit

/-- A slice's array, at address A, reads as the records l, each of sz cells. -/
def Rd {α : Type} (w : World) (sz : Nat) (enc : α → List Value) (A : Option Addr) (n : Nat) (l : List α) : Prop :=
  l.length = n ∧ (0 < n → ∃ b off, A = some ⟨b, off, none⟩ ∧ ∀ (k j : Nat) (u : Value) (h : k < l.length), (enc l[k])[j]? = some u → w.cell? ⟨b, off + k * sz + j, none⟩ = some u)

section
variable {α : Type} {w w' : World} {sz n : Nat} {enc : α → List Value} {A : Option Addr} {l : List α}

theorem Rd.nil (w : World) (sz : Nat) (enc : α → List Value) (A : Option Addr) : Rd w sz enc A 0 ([] : List α) := ⟨rfl, fun h => absurd h (by omega)⟩

theorem Rd.keep (h : Rd w sz enc A n l) (hk : ∀ b o u, w.cell? ⟨b, o, none⟩ = some u → w'.cell? ⟨b, o, none⟩ = some u) : Rd w' sz enc A n l := by
  refine ⟨h.1, fun hn => ?_⟩
  obtain ⟨b, off, e, hc⟩ := h.2 hn
  exact ⟨b, off, e, fun k j u hkl hu => hk _ _ _ (hc k j u hkl hu)⟩

theorem below_cell {B : Nat} (hb : Below B w w') {b o : Nat} {u : Value} (hB : b < B) (h : w.cell? ⟨b, o, none⟩ = some u) : w'.cell? ⟨b, o, none⟩ = some u :=
  (hb.cell (p := ⟨b, o, none⟩) hB).trans h

theorem Rd.below (h : Rd w sz enc A n l) (hb : Below w.heap.size w w') : Rd w' sz enc A n l :=
  h.keep fun _ _ _ hu => below_cell hb (World.block_lt_of_cell? _ _ hu) hu

theorem Rd.take (h : Rd w sz enc A n l) {k : Nat} (hk : k ≤ n) : Rd w sz enc A k (l.take k) := by
  refine ⟨by rw [List.length_take, h.1]; omega, fun hn => ?_⟩
  obtain ⟨b, off, e, hc⟩ := h.2 (by omega)
  refine ⟨b, off, e, fun i j u hi hu => hc i j u (by rw [List.length_take] at hi; omega) ?_⟩
  rw [List.getElem_take] at hu
  exact hu
end

/-- An account. -/
structure Acc where
  code : ByteArray
  name : ByteArray
  kind : Int
  parent : ByteArray
  money : Bool

def Acc.enc (a : Acc) : List Value := [.string a.code, .string a.name, .int .i64 a.kind, .string a.parent, .bool a.money]

/-- A slice of accounts. -/
def Accs (w : World) (A : Option Addr) (n : Nat) (l : List Acc) : Prop := Rd w 5 Acc.enc A n l

theorem Accs.at_ {w : World} {A : Option Addr} {n : Nat} {l : List Acc} (h : Accs w A n l) (hn : 0 < n) : ∃ b off, A = some ⟨b, off, none⟩ ∧ ∀ (k : Nat) (hk : k < l.length),
    w.cell? ⟨b, off + k * 5, none⟩ = some (.string l[k].code) ∧ w.cell? ⟨b, off + k * 5 + 1, none⟩ = some (.string l[k].name) ∧ w.cell? ⟨b, off + k * 5 + 2, none⟩ = some (.int .i64 l[k].kind) ∧
    w.cell? ⟨b, off + k * 5 + 3, none⟩ = some (.string l[k].parent) ∧ w.cell? ⟨b, off + k * 5 + 4, none⟩ = some (.bool l[k].money) := by
  obtain ⟨b, off, e, hc⟩ := h.2 hn
  exact ⟨b, off, e, fun k hk => ⟨hc k 0 _ hk rfl, hc k 1 _ hk rfl, hc k 2 _ hk rfl, hc k 3 _ hk rfl, hc k 4 _ hk rfl⟩⟩

theorem Accs.below {w w' : World} {A : Option Addr} {n : Nat} {l : List Acc} (h : Accs w A n l) (hb : Below w.heap.size w w') : Accs w' A n l := Rd.below h hb

theorem ret_int {k : IntKind} {a b : Int} (h : a = b) : Ending.returned (.int k a) = .returned (.int k b) := by rw [h]
theorem ret_bool {a b : Bool} (h : a = b) : Ending.returned (.bool a) = .returned (.bool b) := by rw [h]
theorem beq_toList (a b : ByteArray) : (a.toList == b.toList) = decide (a = b) := by
  rw [Bool.eq_iff_iff]
  simp only [beq_iff_eq, decide_eq_true_eq, ByteArray.toList_eq]
  constructor
  · intro h
    cases a; cases b
    simpa using h
  · rintro rfl; rfl
theorem hide {p : Prop} (h : p) : Hid p := h
theorem bcell {W w1 : World} (hb : Below W.heap.size W w1) : (∀ b o, b < W.heap.size → w1.cell? ⟨b, o, none⟩ = W.cell? ⟨b, o, none⟩) ∧ (∀ b o, b < W.heap.size → w1.frozen? ⟨b, o, none⟩ = W.frozen? ⟨b, o, none⟩) :=
  ⟨fun b o h => hb.cell (p := ⟨b, o, none⟩) h, fun b o h => hb.frozen (p := ⟨b, o, none⟩) h⟩
theorem bof_alloc {w w1 : World} {o : Obj} (h : Below (w.alloc o).heap.size (w.alloc o) w1) : Below w.heap.size w w1 :=
  ((Below.refl _ _).alloc (Nat.le_refl _) o).trans (h.mono (by simp))
theorem bthen {B : Nat} {a b c : World} (h : Below B a b) (hB : B ≤ a.heap.size) (k : Below b.heap.size b c) : Below B a c :=
  h.trans (k.mono (Nat.le_trans hB h.size))
theorem bdrewN {B : Nat} {a w : World} (h : Below B a w) (n : Nat) : Below B a (w.drewN n) := ⟨h.os, h.tape, h.output, h.size, h.block⟩
theorem Accs.alloc {w : World} {A : Option Addr} {n : Nat} {l : List Acc} (h : Accs w A n l) (o : Obj) : Accs (w.alloc o) A n l := h.below ((Below.refl _ _).alloc (Nat.le_refl _) o)
/-- The error of number e: nil where e is 0. -/
def errV (e : Int) : Value := if e = 0 then .nilIface else .iface 49 (.int .i64 e)
end Go.Proofs.YtjojjicpdfmopaaGreatDoor
