/- Charts as text: dayref1.Print and chart.Print. -/
import Derived.Test.YthmjkhlndphldaaDoorChartP
import Derived.Test.YthmjkhlndphldaaDoorShelf
import Derived.Deep.QuietTactic
import Derived.BigQuiet
import Derived.IntWalk
namespace Go.Proofs.YthmjkhlndphldaaDoor
open Go Go.RowKit
set_option linter.unusedVariables false

theorem bld_write (B b : Nat) (bs : List Value) (s : ByteArray) (w : World) (h : Lib.IsBuilder 88 5 B b bs w) (hlen : bs.length + s.size ≤ 140737488355328) (hBw : B ≤ w.heap.size) :
    Calls Tryd.prog 44 #[.pointer (some ⟨b, 0, none⟩), .string s] w fun e w' => e = .returned (.tuple #[.int .i64 s.size, .nilIface]) ∧ (Lib.BuilderAt 88 5 B b (.pointer (some ⟨b, 0, none⟩)) (bs ++ Lib.strCells s) w' ∧ Below B w w') :=
  Any.Builder_WriteString (P := Tryd.prog) (ρ := Tryd.lays156_ren) { Tryd.lays156 with } Tryd.Builder_Extra_156 B b bs s w h hlen hBw

theorem size_toList (s : ByteArray) : s.toList.length = s.size := by rw [ByteArray.toList_eq]; exact Array.length_toList
theorem ch_sizes {l : List Acc} (h : chartE l = 0) (i : Nat) (hi : i < l.length) : l[i].code.size ≤ 6 ∧ l[i].name.size ≤ 24 ∧ l[i].parent.size ≤ 6 := by
  have hc : ∀ j, (hj : j < l.length) → l[j].code.size ≤ 6 := by
    intro j hj
    have := (ch_good h j hj).code
    unfold digitsB at this
    simp only [Bool.and_eq_true, decide_eq_true_eq] at this
    omega
  have hn := (ch_good h i hi).name
  unfold nameB at hn
  simp only [Bool.and_eq_true, decide_eq_true_eq] at hn
  refine ⟨hc i hi, by omega, ?_⟩
  cases hx : l[i].parent.toList.isEmpty with
  | true =>
    have h0 : l[i].parent.toList = [] := by simpa using hx
    have := size_toList l[i].parent
    rw [h0] at this
    simp at this; omega
  | false =>
    obtain ⟨p, hp, _, e2, _⟩ := ch_parent h i hi hx
    have := hc p (by omega)
    rw [← size_toList, e2, size_toList] at this
    exact this

def letterB (k : Int) : List UInt8 := ((⟨#[45, 65, 76, 69, 73, 88]⟩ : ByteArray).extract k.toNat (k.toNat + 1)).data.toList
def parB (p : ByteArray) : List UInt8 := if p.toList.isEmpty = true then [45] else p.data.toList
def monB (m : Bool) : List UInt8 := if m = true then [109] else [45]
/-- an account as a line of text -/
def lineL (a : Acc) : List UInt8 := a.code.data.toList ++ [32] ++ a.name.data.toList ++ [32] ++ letterB a.kind ++ [32] ++ monB a.money ++ [32] ++ parB a.parent ++ [10]
def printL (l : List Acc) : List UInt8 := l.flatMap lineL
/-- the text sb is the first k accounts' lines -/
def Prints (sb : ByteArray) (l : List Acc) (k : Nat) : Prop := sb.data.toList = printL (l.take k)
theorem Prints.zero (l : List Acc) : Prints ⟨#[]⟩ l 0 := by simp [Prints, printL]
theorem Prints.succ {sb sb' : ByteArray} {l : List Acc} {k : Nat} (h : Prints sb l k) (hk : k < l.length) (e : sb'.data.toList = sb.data.toList ++ lineL l[k]) : Prints sb' l (k + 1) := by
  unfold Prints printL at *
  rw [List.take_succ_eq_append_getElem hk, List.flatMap_append, ← h, e]
  simp
theorem letterB_le (k : Int) : (letterB k).length ≤ 1 := by
  unfold letterB
  rw [Array.length_toList]
  show (ByteArray.extract _ _ _).size ≤ 1
  rw [ByteArray.size_extract]
  omega
theorem lineL_le {l : List Acc} (h : chartE l = 0) (i : Nat) (hi : i < l.length) : (lineL l[i]).length ≤ 60 := by
  obtain ⟨h1, h2, h3⟩ := ch_sizes h i hi
  have h4 := letterB_le l[i].kind
  have h5 : (monB l[i].money).length = 1 := by unfold monB; split <;> rfl
  have h6 : (parB l[i].parent).length ≤ 6 := by
    unfold parB
    split
    · simp
    · rw [Array.length_toList]; exact h3
  unfold lineL
  simp only [List.length_append, List.length_singleton, Array.length_toList]
  have h1' : l[i].code.data.size ≤ 6 := h1
  have h2' : l[i].name.data.size ≤ 24 := h2
  omega
theorem printL_le {l : List Acc} (h : chartE l = 0) : ∀ k, k ≤ l.length → (printL (l.take k)).length ≤ 60 * k := by
  intro k
  induction k with
  | zero => intro _; simp [printL]
  | succ k ih =>
    intro hk
    have h1 := ih (by omega)
    have h2 := lineL_le h k (by omega)
    unfold printL at *
    rw [List.take_succ_eq_append_getElem (by omega), List.flatMap_append, List.length_append]
    simp only [List.flatMap_cons, List.flatMap_nil, List.append_nil]
    omega
theorem Prints.size {sb : ByteArray} {l : List Acc} (h : chartE l = 0) {k : Nat} (hk : k ≤ l.length) (hp : Prints sb l k) : sb.size ≤ 60 * k := by
  have := printL_le h k hk
  unfold Prints at hp
  rw [← hp, Array.length_toList] at this
  exact this

set_option maxHeartbeats 1000000 in
theorem refPrint_ok (l : List Acc) (A : Option Addr) (cap : Nat) (w : World) (ha : Accs w A l.length l) (he : chartE l = 0) :
    Calls Tryd.prog 17 #[.slice A l.length cap] w fun e w' => e = .returned (.string ⟨(printL l).toArray⟩) ∧ Below w.heap.size w w' := by
  have HE := hide he
  have hl : l.length ≤ 60 := chartE_len he
  clear he
  go_enter Tryd.func17, Tryd.ntmps17
  go_wp2_with fail
  go_loopw [3, 4] (fun sv iv wr => ∃ (k : Nat) (sb : ByteArray), k ≤ l.length ∧ iv = .int .i64 k ∧ sv = .string sb ∧ Prints sb l k ∧ Below w.heap.size w wr) (fun _ iv _ => l.length - (intOf iv).toNat)
  case atStart => exact ⟨0, ⟨#[]⟩, by omega, rfl, rfl, Prints.zero l, Below.refl _ _⟩
  case round =>
    obtain ⟨k, sb, hk, rfl, rfl, hpr, hb⟩ := hrel
    by_cases hlt : k < l.length
    · obtain ⟨b, off, rfl, hcs⟩ := (ha.below hb).at_ (by omega)
      obtain ⟨h0, h1, h2, h3, h4⟩ := hcs k hlt
      clear hcs
      have hg := ch_good HE.out k hlt
      obtain ⟨kn, hkn⟩ : ∃ kn : Nat, l[k].kind = (kn : Int) := ⟨l[k].kind.toNat, by have := hg.lo; omega⟩
      rw [hkn] at h2
      have k1 : (1 : Int) ≤ (kn : Int) := by have := hg.lo; omega
      have k2 : (kn : Int) ≤ 5 := by have := hg.hi; omega
      have k3 : IntKind.i64.wrap ((kn : Int) + 1) = (kn : Int) + 1 := IntWalk.i64_in _ (by omega)
      have k4 : ((kn : Int) + 1).toNat = kn + 1 := by omega
      have k5 : 0 ≤ (kn : Int) + 1 := by omega
      have k6 : (kn : Int) + 1 ≤ 6 := by omega
      have k7 : (kn : Int) ≤ (kn : Int) + 1 := by omega
      have HK : Hid (letterB l[k].kind = ((⟨#[45, 65, 76, 69, 73, 88]⟩ : ByteArray).extract kn (kn + 1)).data.toList) := by
        show letterB _ = _
        unfold letterB
        rw [hkn, Int.toNat_natCast]
      clear hg hkn
      obtain ⟨z1, z2, z3⟩ := ch_sizes HE.out k hlt
      have z4 : sb.size ≤ 3600 := by have := hpr.size HE.out hk; omega
      cases hm : l[k].money with
      | true =>
        rw [hm] at h4
        have HM : Hid (monB l[k].money = [109]) := by show monB _ = _; rw [hm]; rfl
        cases hx : l[k].parent.toList.isEmpty with
        | true =>
          have HX : Hid (parB l[k].parent = [45]) := by show parB _ = _; unfold parB; rw [if_pos hx]
          go_wp2_with fail
          go_quiet (fail)
          go_wp2_with fail
          go_roundw
          case rel => exact ⟨k + 1, _, by omega, by go_num, rfl, hpr.succ hlt (by unfold lineL; rw [HM.out, HX.out, HK.out]; simp [ByteArray.data_append]), bdrewN (hb.alloc hb.size _) _⟩
          case measure => simp [intOf]; omega
        | false =>
          have HX : Hid (parB l[k].parent = l[k].parent.data.toList) := by show parB _ = _; unfold parB; rw [if_neg (by simp [hx])]
          go_wp2_with fail
          go_quiet (fail)
          go_wp2_with fail
          go_roundw
          case rel => exact ⟨k + 1, _, by omega, by go_num, rfl, hpr.succ hlt (by unfold lineL; rw [HM.out, HX.out, HK.out]; simp [ByteArray.data_append]), bdrewN (hb.alloc hb.size _) _⟩
          case measure => simp [intOf]; omega
      | false =>
        rw [hm] at h4
        have HM : Hid (monB l[k].money = [45]) := by show monB _ = _; rw [hm]; rfl
        cases hx : l[k].parent.toList.isEmpty with
        | true =>
          have HX : Hid (parB l[k].parent = [45]) := by show parB _ = _; unfold parB; rw [if_pos hx]
          go_wp2_with fail
          go_quiet (fail)
          go_wp2_with fail
          go_roundw
          case rel => exact ⟨k + 1, _, by omega, by go_num, rfl, hpr.succ hlt (by unfold lineL; rw [HM.out, HX.out, HK.out]; simp [ByteArray.data_append]), bdrewN (hb.alloc hb.size _) _⟩
          case measure => simp [intOf]; omega
        | false =>
          have HX : Hid (parB l[k].parent = l[k].parent.data.toList) := by show parB _ = _; unfold parB; rw [if_neg (by simp [hx])]
          go_wp2_with fail
          go_quiet (fail)
          go_wp2_with fail
          go_roundw
          case rel => exact ⟨k + 1, _, by omega, by go_num, rfl, hpr.succ hlt (by unfold lineL; rw [HM.out, HX.out, HK.out]; simp [ByteArray.data_append]), bdrewN (hb.alloc hb.size _) _⟩
          case measure => simp [intOf]; omega
    · go_wp2_with fail
      have hkl : k = l.length := by omega
      subst hkl
      unfold Prints at hpr
      rw [List.take_length] at hpr
      have hsb : sb = ⟨(printL l).toArray⟩ := by
        apply ByteArray.ext
        rw [← hpr]
      go_ret
      exact ⟨by rw [hsb]; rfl, hb⟩
end Go.Proofs.YthmjkhlndphldaaDoor
