/- dayref2.Full, Put: what each returns. -/
import Derived.Test.YtggmbjdonlbfkaaGreatDoorBesafterLedX
import Derived.Test.YtggmbjdonlbfkaaGreatDoorBesafterBalX
import Derived.Test.YtggmbjdonlbfkaaGreatDoorBesafterRollR
namespace Go.Proofs.YtggmbjdonlbfkaaGreatDoorBesafter
open Go Go.RowKit
set_option linter.unusedVariables false

def zeroBal : Value := .agg #[.int .i64 0, .string ⟨#[]⟩, .string ⟨#[]⟩, .int .i64 0]
theorem bal_info : (Tryz.prog.info? 33).map (fun i => (i.zero, i.size, i.bytes)) = some (some zeroBal, 4, 48) := by kernel_rfl

end Go.Proofs.YtggmbjdonlbfkaaGreatDoorBesafter

namespace Go.Proofs.YtggmbjdonlbfkaaGreatDoorBesafter
open Go Go.RowKit
set_option linter.unusedVariables false

def wantB (ent : Int) (cur : ByteArray) (x : Bal) : Bool := (x.ent == ent) && (x.cur.toList == cur.toList)
def badB (c : List Acc) (ent : Int) (cur : ByteArray) (x : Bal) : Bool := wantB ent cur x && (idxO c x.acc).isNone
def amtStep (c : List Acc) (ent : Int) (cur : ByteArray) (o : List Int) (x : Bal) : List Int := if wantB ent cur x = true then (match idxO c x.acc with | some i => o.set i x.amt | none => o) else o
def amtTo (c : List Acc) (l : List Bal) (ent : Int) (cur : ByteArray) (k : Nat) : List Int := (l.take k).foldl (amtStep c ent cur) (List.replicate c.length 0)
def amtE (c : List Acc) (l : List Bal) (ent : Int) (cur : ByteArray) : Int := if l.any (badB c ent cur) = true then 6 else 0
section
variable {c : List Acc} {l : List Bal} {ent : Int} {cur : ByteArray}
theorem amtStep_len (o : List Int) (x : Bal) : (amtStep c ent cur o x).length = o.length := by
  unfold amtStep
  split
  · split
    · exact List.length_set
    · rfl
  · rfl
theorem amtTo_succ {k : Nat} (hk : k < l.length) : amtTo c l ent cur (k + 1) = amtStep c ent cur (amtTo c l ent cur k) l[k] := by
  unfold amtTo
  rw [List.take_succ_eq_append_getElem hk, List.foldl_append]; rfl
theorem amtTo_len (k : Nat) : (amtTo c l ent cur k).length = c.length := by
  induction k with
  | zero => simp [amtTo]
  | succ k ih =>
    rcases Nat.lt_or_ge k l.length with h | h
    · rw [amtTo_succ h, amtStep_len, ih]
    · unfold amtTo at *
      rw [List.take_of_length_le (by omega)]
      rw [List.take_of_length_le h] at ih
      exact ih
theorem amt_skip {k : Nat} (hk : k < l.length) (h : wantB ent cur l[k] = false) : amtTo c l ent cur (k + 1) = amtTo c l ent cur k ∧ badB c ent cur l[k] = false := by
  refine ⟨?_, by simp [badB, h]⟩
  rw [amtTo_succ hk, amtStep, if_neg (by rw [h]; decide)]
theorem amt_set {k i : Nat} (hk : k < l.length) (h : wantB ent cur l[k] = true) (hi : idxO c l[k].acc = some i) : amtTo c l ent cur (k + 1) = (amtTo c l ent cur k).set i l[k].amt ∧ badB c ent cur l[k] = false := by
  refine ⟨?_, by simp [badB, hi]⟩
  rw [amtTo_succ hk, amtStep, if_pos h, hi]
theorem amt_bad {k : Nat} (hk : k < l.length) (h : wantB ent cur l[k] = true) (hi : idxO c l[k].acc = none) : amtE c l ent cur = 6 := by
  rw [amtE, if_pos (any_at hk (by simp [badB, h, hi]))]
theorem amt_good {k : Nat} (h : NoTo (badB c ent cur) l k) (hk : l.length ≤ k) : amtE c l ent cur = 0 := by
  rw [amtE, if_neg (by rw [h.any hk]; decide)]
theorem want_no1 {x : Bal} (h : x.ent ≠ ent) : wantB ent cur x = false := by simp [wantB, h]
theorem want_no2 {x : Bal} (h : (x.cur.toList == cur.toList) = false) : wantB ent cur x = false := by simp [wantB, h]
theorem want_yes {x : Bal} (h1 : x.ent = ent) (h : (x.cur.toList == cur.toList) = true) : wantB ent cur x = true := by simp [wantB, h1, h]
end
theorem own_zeros (w : World) (n : Nat) (hn : n ≤ maxLen) : Own (w.alloc (.cells (Array.replicate n (.int .i64 0)) 3)) w.heap.size 3 1 intEnc2 (.slice (some ⟨w.heap.size, 0, none⟩) n n) (List.replicate n 0) := by
  refine ⟨by simp [intEnc2], .inr ⟨w.heap.size, n, Array.replicate n (.int .i64 0), by rw [List.length_replicate], Nat.le_refl _, (MapKept.heap_alloc w _).1, by simp, hn, by simp, ?_⟩⟩
  simp [intEnc2, List.flatMap_replicate]

end Go.Proofs.YtggmbjdonlbfkaaGreatDoorBesafter
