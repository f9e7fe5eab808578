/- chart.Print: what it returns. -/
import Derived.Test.YthmjkhlndphldaaDoorBld
import Derived.Deep.RegionHeld3
import Derived.Deep.RegionWith
import Derived.Deep.DeepFit
namespace Go.Proofs.YthmjkhlndphldaaDoor
open Go Go.RowKit
set_option linter.unusedVariables false

theorem join_line (a : Acc) (kn : Nat) (hk : a.kind = kn) :
    Lib.join ([a.code, a.name, (⟨#[45, 65, 76, 69, 73, 88]⟩ : ByteArray).extract kn (kn + 1), ⟨(monB a.money).toArray⟩, ⟨(parB a.parent).toArray⟩].map (·.data.toList)) [32] ++ [10] = lineL a := by
  unfold lineL letterB
  rw [hk, Int.toNat_natCast]
  simp [Lib.join_cons, Lib.joinTail]

/-- strings.Join of an account's five texts, laid just now -/
theorem join_at (l : List Acc) (k kn : Nat) (hlt : k < l.length) (he : chartE l = 0) (hk : l[k].kind = kn) (m : ByteArray) (hm : m = ⟨(monB l[k].money).toArray⟩) (g : Nat) (W : World) (hg : g = W.heap.size) :
    Calls Tryd.prog 45 #[.slice (some ⟨g, 0, none⟩) 5 5, .string ⟨#[32]⟩] (W.alloc (.cells #[.string l[k].code, .string l[k].name, .string ((⟨#[45, 65, 76, 69, 73, 88]⟩ : ByteArray).extract kn (kn + 1)), .string m, .string ⟨(parB l[k].parent).toArray⟩] 9)).drew
      fun e w' => ∃ t : ByteArray, e = .returned (.string t) ∧ t.size ≤ 60 ∧ t.data.toList ++ [10] = lineL l[k] ∧ Below W.heap.size W w' := by
  subst hm hg
  have hj := join_line l[k] kn hk
  have hle := lineL_le he k hlt
  have hlen : (Lib.join ([l[k].code, l[k].name, (⟨#[45, 65, 76, 69, 73, 88]⟩ : ByteArray).extract kn (kn + 1), ⟨(monB l[k].money).toArray⟩, ⟨(parB l[k].parent).toArray⟩].map (·.data.toList)) [32]).length ≤ 60 := by
    have := congrArg List.length hj
    rw [List.length_append] at this
    simp only [List.length_singleton] at this
    omega
  refine (Tryd.strings_Join W.heap.size 0 5 [l[k].code, l[k].name, (⟨#[45, 65, 76, 69, 73, 88]⟩ : ByteArray).extract kn (kn + 1), ⟨(monB l[k].money).toArray⟩, ⟨(parB l[k].parent).toArray⟩] ⟨#[32]⟩ _ ?_ (by simp) (by simp) (by simp) ?_).mono ?_
  · intro j x hx
    have := (Rd.lit W ⟨fun _ => rfl, fun _ u hu => by simp at hu; subst hu; rfl⟩ (enc := fun s : ByteArray => [Value.string s]) [l[k].code, l[k].name, (⟨#[45, 65, 76, 69, 73, 88]⟩ : ByteArray).extract kn (kn + 1), ⟨(monB l[k].money).toArray⟩, ⟨(parB l[k].parent).toArray⟩] 5 rfl
      #[.string l[k].code, .string l[k].name, .string ((⟨#[45, 65, 76, 69, 73, 88]⟩ : ByteArray).extract kn (kn + 1)), .string ⟨(monB l[k].money).toArray⟩, .string ⟨(parB l[k].parent).toArray⟩] 9 rfl : Rd _ 1 _ _ _ _).2 (by omega)
    obtain ⟨b', o', e', hc⟩ := this
    simp only [Option.some.injEq, Addr.mk.injEq, and_true] at e'
    obtain ⟨rfl, rfl⟩ := e'
    obtain ⟨hjl, hjx⟩ := List.getElem?_eq_some_iff.1 hx
    have := hc j 0 (.string x) hjl (by simp [hjx])
    rw [Nat.mul_one, Nat.add_zero] at this
    exact this
  · exact Nat.le_trans hlen (by omega)
  · rintro e w' ⟨rfl, hb⟩
    refine ⟨_, rfl, ?_, hj, (((Below.refl _ _).alloc (Nat.le_refl _) _).drew).trans (hb.mono (by simp))⟩
    show (List.toArray _).size ≤ 60
    rw [List.size_toArray]
    exact hlen

theorem line_cells {l : List Acc} {k : Nat} (hlt : k < l.length) {t : ByteArray} (ht : t.data.toList ++ [10] = lineL l[k]) :
    Lib.byteCells (printL (l.take (k + 1))) = Lib.byteCells (printL (l.take k)) ++ Lib.strCells (t ++ ⟨#[10]⟩) := by
  unfold printL
  rw [List.take_succ_eq_append_getElem hlt, List.flatMap_append]
  simp only [List.flatMap_cons, List.flatMap_nil, List.append_nil, ← ht]
  simp [Lib.byteCells, Lib.strCells, ByteArray.data_append]
theorem four_below {W w' : World} {b : Nat} {v0 v1 v2 v3 : Value} (hb : Below W.heap.size W w') (hB : b < W.heap.size) (h : W.cell? ⟨b, 0, none⟩ = some v0 ∧ W.cell? ⟨b, 1, none⟩ = some v1 ∧ W.cell? ⟨b, 2, none⟩ = some v2 ∧ W.cell? ⟨b, 3, none⟩ = some v3) :
    w'.cell? ⟨b, 0, none⟩ = some v0 ∧ w'.cell? ⟨b, 1, none⟩ = some v1 ∧ w'.cell? ⟨b, 2, none⟩ = some v2 ∧ w'.cell? ⟨b, 3, none⟩ = some v3 :=
  ⟨below_cell hb hB h.1, below_cell hb hB h.2.1, below_cell hb hB h.2.2.1, below_cell hb hB h.2.2.2⟩
theorem four_block {W w' : World} {b : Nat} {v0 v1 v2 v3 : Value} (hb : w'.heap[b]? = W.heap[b]?) (h : W.cell? ⟨b, 0, none⟩ = some v0 ∧ W.cell? ⟨b, 1, none⟩ = some v1 ∧ W.cell? ⟨b, 2, none⟩ = some v2 ∧ W.cell? ⟨b, 3, none⟩ = some v3) :
    w'.cell? ⟨b, 0, none⟩ = some v0 ∧ w'.cell? ⟨b, 1, none⟩ = some v1 ∧ w'.cell? ⟨b, 2, none⟩ = some v2 ∧ w'.cell? ⟨b, 3, none⟩ = some v3 := by
  simp only [World.cell?, hb] at h ⊢
  exact h

theorem print_bad (l : List Acc) (A : Option Addr) (n cap : Nat) (w : World) (hl : n ≤ 9223372036854775807) (hcap : n ≤ cap) (ha : Accs w A n l) (hok : AccOk l) (he : chartE l ≠ 0) :
    Calls Tryd.prog 20 #[.slice A n cap] w fun e w' => e = .returned (.tuple #[.string ⟨#[]⟩, .iface 79 (.int .i64 (chartE l))]) ∧ Below w.heap.size w w' := by
  have HE := hide he
  clear he
  go_enter Tryd.func20, Tryd.ntmps20
  go_wp2_with (go_at_call 16; refine (check_bad l _ _ _ _ hl hcap ha hok HE.out).mono ?_; rintro e w1 ⟨rfl, hb1⟩)
  go_ret2
  exact ⟨rfl, hb1⟩

set_option maxHeartbeats 4000000 in
set_option maxRecDepth 100000 in
theorem print_ok (l : List Acc) (A : Option Addr) (cap : Nat) (w : World) (hcap : l.length ≤ cap) (ha : Accs w A l.length l) (hok : AccOk l) (he : chartE l = 0) :
    Calls Tryd.prog 20 #[.slice A l.length cap] w fun e w' => e = .returned (.tuple #[.string ⟨(printL l).toArray⟩, .nilIface]) ∧ Below w.heap.size w w' := by
  have HE := hide he
  have hl : l.length ≤ 60 := chartE_len he
  clear he
  go_enter Tryd.func20, Tryd.ntmps20
  go_wp2_with (go_at_call 16; refine (check_ok l _ _ _ _ (by omega) hcap ha hok HE.out).mono ?_; rintro e w1 ⟨rfl, hb1⟩)
  go_loopw [16] (fun iv wr => ∃ k : Nat, k ≤ l.length ∧ iv = .int .i64 k ∧ Lib.IsBuilder 88 5 w1.heap.size w1.heap.size (Lib.byteCells (printL (l.take k))) wr ∧ Below w1.heap.size w1 wr) (fun iv _ => l.length - (intOf iv).toNat)
  case atStart => exact ⟨0, by omega, rfl, Lib.fresh_isBuilder _ _ _, (Below.refl _ _).alloc (Nat.le_refl _) _⟩
  case round =>
    obtain ⟨k, hk, rfl, hbu, hbr⟩ := hrel
    by_cases hlt : k < l.length
    · have hbw := bthen hb1 (Nat.le_refl _) hbr
      obtain ⟨b, off, rfl, hcs⟩ := (ha.below hbw).at_ (by omega)
      obtain ⟨h0, h1, h2, h3, h4⟩ := hcs k hlt
      clear hcs
      have hg := ch_good HE.out k hlt
      obtain ⟨kn, hkn⟩ : ∃ kn : Nat, l[k].kind = (kn : Int) := ⟨l[k].kind.toNat, by have := hg.lo; omega⟩
      rw [hkn] at h2
      have k1 : (1 : Int) ≤ (kn : Int) := by have := hg.lo; omega
      have k2 : (kn : Int) ≤ 5 := by have := hg.hi; omega
      have k3 : IntKind.i64.wrap ((kn : Int) + 1) = (kn : Int) + 1 := IntWalk.i64_in _ (by omega)
      have k4 : ((kn : Int) + 1).toNat = kn + 1 := by omega
      have k5 : 0 ≤ (kn : Int) + 1 := by omega
      have k6 : (kn : Int) + 1 ≤ 6 := by omega
      have k7 : (kn : Int) ≤ (kn : Int) + 1 := by omega
      have hz : ∀ t : ByteArray, t.size ≤ 61 → (Lib.byteCells (printL (l.take k))).length + t.size ≤ 140737488355328 := by
        intro t ht
        have := printL_le HE.out k hk
        simp only [Lib.byteCells, List.length_map]
        omega
      have HKN := hide hkn
      clear hg hkn
      cases hm : l[k].money with
      | true =>
        rw [hm] at h4
        have HM : Hid (monB l[k].money = [109]) := by show monB _ = _; rw [hm]; rfl
        go_wp2_with fail
        go_region_held3 (fun w' => w'.cell? ⟨wr.heap.size, 0, none⟩ = some (.string l[k].code) ∧ w'.cell? ⟨wr.heap.size, 1, none⟩ = some (.string l[k].name) ∧ w'.cell? ⟨wr.heap.size, 2, none⟩ = some (.int .i64 kn) ∧ w'.cell? ⟨wr.heap.size, 3, none⟩ = some (.string l[k].parent)) (first | exact hS5 | exact hS6 | go_keep)
          (first | (go_at_call 46; refine (or_any _ _).mono ?_; rintro e w4 ⟨rfl, rfl⟩) | (go_at_call 45; go_fit (join_at l k kn hlt HE.out HKN.out ⟨#[109]⟩ (by rw [HM.out]) _ _ (by simp)); rintro e w5 ⟨t, rfl, ht1, ht2, hb5⟩; have ht3 : ¬ (9223372036854775807 < t.size + (⟨#[10]⟩ : ByteArray).size) := Nat.not_lt.2 (Nat.le_trans (Nat.add_le_add_right ht1 1) (by decide)); have ht4 : ¬ (9223372036854775807 < t.size + 1) := Nat.not_lt.2 (Nat.le_trans (Nat.add_le_add_right ht1 1) (by decide)); have ht5 : ¬ (9223372036854775807 ≤ t.size) := Nat.not_le.2 (Nat.lt_of_le_of_lt ht1 (by decide)); have ht6 : ¬ (9223372036854775807 < t.size + (#[10] : Array UInt8).size) := ht4; go_loud (have hlt5 : wr.heap.size < w5.heap.size := Nat.lt_of_lt_of_le (by simp) hb5.size); have hS5 := four_below hb5 (b := wr.heap.size) (v0 := .string l[k].code) (v1 := .string l[k].name) (v2 := .int .i64 kn) (v3 := .string l[k].parent) (by simp) (by simp)) | (go_at_call 44; go_loud (refine (bld_writeF w1.heap.size w1.heap.size _ _ wr _ hbu (bof_alloc hb5) (hz _ (by rw [ByteArray.size_append]; exact Nat.add_le_add ht1 (Nat.le_refl 1))) hbr.size).mono ?_); rintro e w6 ⟨rfl, hbw6, hb6, hk6⟩; have hS6 := four_block (hk6 wr.heap.size (Nat.le_refl _) hlt5) hS5))
        go_wp2_with fail
        go_roundw
        case rel =>
          refine ⟨k + 1, by omega, by go_num, ?_, hbr.trans ((bof_alloc hb5).mono hbr.size |>.trans hb6)⟩
          right
          rw [line_cells hlt ht2]
          exact hbw6
        case measure => simp [intOf]; omega
      | false =>
        rw [hm] at h4
        have HM : Hid (monB l[k].money = [45]) := by show monB _ = _; rw [hm]; rfl
        go_wp2_with fail
        go_region_held3 (fun w' => w'.cell? ⟨wr.heap.size, 0, none⟩ = some (.string l[k].code) ∧ w'.cell? ⟨wr.heap.size, 1, none⟩ = some (.string l[k].name) ∧ w'.cell? ⟨wr.heap.size, 2, none⟩ = some (.int .i64 kn) ∧ w'.cell? ⟨wr.heap.size, 3, none⟩ = some (.string l[k].parent)) (first | exact hS5 | exact hS6 | go_keep)
          (first | (go_at_call 46; refine (or_any _ _).mono ?_; rintro e w4 ⟨rfl, rfl⟩) | (go_at_call 45; go_fit (join_at l k kn hlt HE.out HKN.out ⟨#[45]⟩ (by rw [HM.out]) _ _ (by simp)); rintro e w5 ⟨t, rfl, ht1, ht2, hb5⟩; have ht3 : ¬ (9223372036854775807 < t.size + (⟨#[10]⟩ : ByteArray).size) := Nat.not_lt.2 (Nat.le_trans (Nat.add_le_add_right ht1 1) (by decide)); have ht4 : ¬ (9223372036854775807 < t.size + 1) := Nat.not_lt.2 (Nat.le_trans (Nat.add_le_add_right ht1 1) (by decide)); have ht5 : ¬ (9223372036854775807 ≤ t.size) := Nat.not_le.2 (Nat.lt_of_le_of_lt ht1 (by decide)); have ht6 : ¬ (9223372036854775807 < t.size + (#[10] : Array UInt8).size) := ht4; go_loud (have hlt5 : wr.heap.size < w5.heap.size := Nat.lt_of_lt_of_le (by simp) hb5.size); have hS5 := four_below hb5 (b := wr.heap.size) (v0 := .string l[k].code) (v1 := .string l[k].name) (v2 := .int .i64 kn) (v3 := .string l[k].parent) (by simp) (by simp)) | (go_at_call 44; go_loud (refine (bld_writeF w1.heap.size w1.heap.size _ _ wr _ hbu (bof_alloc hb5) (hz _ (by rw [ByteArray.size_append]; exact Nat.add_le_add ht1 (Nat.le_refl 1))) hbr.size).mono ?_); rintro e w6 ⟨rfl, hbw6, hb6, hk6⟩; have hS6 := four_block (hk6 wr.heap.size (Nat.le_refl _) hlt5) hS5))
        go_wp2_with fail
        go_roundw
        case rel =>
          refine ⟨k + 1, by omega, by go_num, ?_, hbr.trans ((bof_alloc hb5).mono hbr.size |>.trans hb6)⟩
          right
          rw [line_cells hlt ht2]
          exact hbw6
        case measure => simp [intOf]; omega
    · go_wp2_with (go_at_call 47; go_loud (refine (Tryd.Builder_String_any w1.heap.size w1.heap.size _ _ hbu hbr.size).mono ?_); rintro e w7 ⟨rfl, hb7⟩)
      go_ret2
      have hkl : k = l.length := by omega
      subst hkl
      rw [List.take_length]
      exact ⟨rfl, hb1.trans ((hbr.trans hb7).mono hb1.size)⟩
end Go.Proofs.YthmjkhlndphldaaDoor
