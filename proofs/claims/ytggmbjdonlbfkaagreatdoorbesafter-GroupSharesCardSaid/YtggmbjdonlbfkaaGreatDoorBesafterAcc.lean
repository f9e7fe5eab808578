/- chart.account, walked. -/
import Derived.Test.YtggmbjdonlbfkaaGreatDoorBesafterTrimX
import Derived.Deep.RegionHeld3
import Derived.Deep.QuietTactic
import Derived.BigQuiet
import Derived.IntWalk
namespace Go.Proofs.YtggmbjdonlbfkaaGreatDoorBesafter
open Go Go.RowKit
set_option linter.unusedVariables false

def uppers : ByteArray := ⟨#[65, 66, 67, 68, 69, 70, 71, 72, 73, 74, 75, 76, 77, 78, 79, 80, 81, 82, 83, 84, 85, 86, 87, 88, 89, 90]⟩
def nameSet : ByteArray := ⟨#[97, 98, 99, 100, 101, 102, 103, 104, 105, 106, 107, 108, 109, 110, 111, 112, 113, 114, 115, 116, 117, 118, 119, 120, 121, 122, 65, 66, 67, 68, 69, 70, 71, 72, 73, 74, 75, 76, 77, 78, 79, 80, 81, 82, 83, 84, 85, 86, 87, 88, 89, 90, 48, 49, 50, 51, 52, 53, 54, 55, 56, 57, 45]⟩

theorem upper_any (w : World) :
    Calls Tryz.prog 48 #[.string ⟨#[97, 98, 99, 100, 101, 102, 103, 104, 105, 106, 107, 108, 109, 110, 111, 112, 113, 114, 115, 116, 117, 118, 119, 120, 121, 122]⟩] w
      fun e w' => e = .returned (.string ⟨#[65, 66, 67, 68, 69, 70, 71, 72, 73, 74, 75, 76, 77, 78, 79, 80, 81, 82, 83, 84, 85, 86, 87, 88, 89, 90]⟩) ∧ Below w.heap.size w w' := 
  (Tryz.strings_ToUpper_ascii ⟨#[97, 98, 99, 100, 101, 102, 103, 104, 105, 106, 107, 108, 109, 110, 111, 112, 113, 114, 115, 116, 117, 118, 119, 120, 121, 122]⟩ w (by decide) (ascii_of_all (by decide))).mono
    fun e w' ⟨he, hb⟩ => ⟨he.trans (congrArg (fun l : List UInt8 => Ending.returned (.string ⟨l.toArray⟩)) (by decide +kernel : Lib.toUpperA _ = [65, 66, 67, 68, 69, 70, 71, 72, 73, 74, 75, 76, 77, 78, 79, 80, 81, 82, 83, 84, 85, 86, 87, 88, 89, 90])), hb⟩

theorem acc_c1 (l : List Acc) (A : Option Addr) (n cap i : Nat) (w : World) (hl : n ≤ 9223372036854775807) (hcap : n ≤ cap) (ha : Accs w A n l) (hil : i < l.length)
    (hs1 : l[i].code.size ≤ 9223372036854775807) (hs2 : l[i].name.size ≤ 9223372036854775807) (hd : digitsB l[i].code 6 = false) :
    Calls Tryz.prog 23 #[.slice A n cap, .int .i64 i] w fun e w' => e = .returned (.iface 41 (.int .i64 2)) ∧ Below w.heap.size w w' := by
  have hn : l.length = n := ha.1
  have hi : i < n := by omega
  have Hn := hide hn
  clear hn
  obtain ⟨b, off, rfl, hcs⟩ := ha.at_ (by omega)
  obtain ⟨h0, h1, h2, h3, h4⟩ := hcs i hil
  have hbl : b < w.heap.size := World.block_lt_of_cell? _ _ h0
  have hble : b ≤ w.heap.size := by omega
  clear hcs
  go_enter Tryz.func23, Tryz.ntmps23
  go_wp2_with (first | (go_at_call 46; refine (digits_any _ _ _ hs1).mono ?_; rintro e w1 ⟨rfl, hb1⟩; have hS1 : w1.cell? ⟨w.heap.size, 1, none⟩ = some (.string l[i].name) := below_cell hb1 (by simp) (by simp); have hc1 := (bcell hb1).1; have hz1 : w.heap.size < w1.heap.size := (by have := hb1.size; simp at this; omega); have hbz1 : b < w1.heap.size := (by omega)) | (go_at_call 48; refine (upper_any _).mono ?_; rintro e w2 ⟨rfl, hb2⟩; have hc2 := (bcell hb2).1; have hz2 : w.heap.size < w2.heap.size := (by have := hb2.size; omega); have hbz2 : b < w2.heap.size := (by omega)) | (go_at_call 47; refine (trim_yes l[i].name _ _ hs2 (by decide) (by decide) H.out).mono ?_; rintro e w3 ⟨rfl, hb3⟩; have hc3 := (bcell hb3).1; have hz3 : w.heap.size < w3.heap.size := (by have := hb3.size; omega); have hbz3 : b < w3.heap.size := (by omega)))
  go_ret
  exact ⟨rfl, bof_alloc hb1⟩

theorem acc_c2 (l : List Acc) (A : Option Addr) (n cap i : Nat) (w : World) (hl : n ≤ 9223372036854775807) (hcap : n ≤ cap) (ha : Accs w A n l) (hil : i < l.length)
    (hs1 : l[i].code.size ≤ 9223372036854775807) (hs2 : l[i].name.size ≤ 9223372036854775807) (hd : digitsB l[i].code 6 = true) (hn1 : l[i].name.toList.isEmpty = true) :
    Calls Tryz.prog 23 #[.slice A n cap, .int .i64 i] w fun e w' => e = .returned (.iface 41 (.int .i64 2)) ∧ Below w.heap.size w w' := by
  have hn : l.length = n := ha.1
  have hi : i < n := by omega
  have Hn := hide hn
  clear hn
  obtain ⟨b, off, rfl, hcs⟩ := ha.at_ (by omega)
  obtain ⟨h0, h1, h2, h3, h4⟩ := hcs i hil
  have hbl : b < w.heap.size := World.block_lt_of_cell? _ _ h0
  have hble : b ≤ w.heap.size := by omega
  clear hcs
  go_enter Tryz.func23, Tryz.ntmps23
  go_wp2_with (first | (go_at_call 46; refine (digits_any _ _ _ hs1).mono ?_; rintro e w1 ⟨rfl, hb1⟩; have hS1 : w1.cell? ⟨w.heap.size, 1, none⟩ = some (.string l[i].name) := below_cell hb1 (by simp) (by simp); have hc1 := (bcell hb1).1; have hz1 : w.heap.size < w1.heap.size := (by have := hb1.size; simp at this; omega); have hbz1 : b < w1.heap.size := (by omega)) | (go_at_call 48; refine (upper_any _).mono ?_; rintro e w2 ⟨rfl, hb2⟩; have hc2 := (bcell hb2).1; have hz2 : w.heap.size < w2.heap.size := (by have := hb2.size; omega); have hbz2 : b < w2.heap.size := (by omega)) | (go_at_call 47; refine (trim_yes l[i].name _ _ hs2 (by decide) (by decide) H.out).mono ?_; rintro e w3 ⟨rfl, hb3⟩; have hc3 := (bcell hb3).1; have hz3 : w.heap.size < w3.heap.size := (by have := hb3.size; omega); have hbz3 : b < w3.heap.size := (by omega)))
  go_ret
  exact ⟨rfl, bof_alloc hb1⟩

theorem acc_c3 (l : List Acc) (A : Option Addr) (n cap i : Nat) (w : World) (hl : n ≤ 9223372036854775807) (hcap : n ≤ cap) (ha : Accs w A n l) (hil : i < l.length)
    (hs1 : l[i].code.size ≤ 9223372036854775807) (hs2 : l[i].name.size ≤ 9223372036854775807) (hd : digitsB l[i].code 6 = true) (hn1 : l[i].name.toList.isEmpty = false) (hn2 : 24 < (l[i].name.size : Int)) :
    Calls Tryz.prog 23 #[.slice A n cap, .int .i64 i] w fun e w' => e = .returned (.iface 41 (.int .i64 2)) ∧ Below w.heap.size w w' := by
  have hn : l.length = n := ha.1
  have hi : i < n := by omega
  have Hn := hide hn
  clear hn
  obtain ⟨b, off, rfl, hcs⟩ := ha.at_ (by omega)
  obtain ⟨h0, h1, h2, h3, h4⟩ := hcs i hil
  have hbl : b < w.heap.size := World.block_lt_of_cell? _ _ h0
  have hble : b ≤ w.heap.size := by omega
  clear hcs
  go_enter Tryz.func23, Tryz.ntmps23
  go_wp2_with (first | (go_at_call 46; refine (digits_any _ _ _ hs1).mono ?_; rintro e w1 ⟨rfl, hb1⟩; have hS1 : w1.cell? ⟨w.heap.size, 1, none⟩ = some (.string l[i].name) := below_cell hb1 (by simp) (by simp); have hc1 := (bcell hb1).1; have hz1 : w.heap.size < w1.heap.size := (by have := hb1.size; simp at this; omega); have hbz1 : b < w1.heap.size := (by omega)) | (go_at_call 48; refine (upper_any _).mono ?_; rintro e w2 ⟨rfl, hb2⟩; have hc2 := (bcell hb2).1; have hz2 : w.heap.size < w2.heap.size := (by have := hb2.size; omega); have hbz2 : b < w2.heap.size := (by omega)) | (go_at_call 47; refine (trim_yes l[i].name _ _ hs2 (by decide) (by decide) H.out).mono ?_; rintro e w3 ⟨rfl, hb3⟩; have hc3 := (bcell hb3).1; have hz3 : w.heap.size < w3.heap.size := (by have := hb3.size; omega); have hbz3 : b < w3.heap.size := (by omega)))
  go_ret
  exact ⟨rfl, bof_alloc hb1⟩

theorem acc_c4 (l : List Acc) (A : Option Addr) (n cap i : Nat) (w : World) (hl : n ≤ 9223372036854775807) (hcap : n ≤ cap) (ha : Accs w A n l) (hil : i < l.length)
    (hs1 : l[i].code.size ≤ 9223372036854775807) (hs2 : l[i].name.size ≤ 9223372036854775807) (hd : digitsB l[i].code 6 = true) (hn1 : l[i].name.toList.isEmpty = false) (hn2 : (l[i].name.size : Int) ≤ 24) (H : Hid (allIn l[i].name nameSet = false)) :
    Calls Tryz.prog 23 #[.slice A n cap, .int .i64 i] w fun e w' => e = .returned (.iface 41 (.int .i64 2)) ∧ Below w.heap.size w w' := by
  have hn : l.length = n := ha.1
  have hi : i < n := by omega
  have Hn := hide hn
  clear hn
  obtain ⟨b, off, rfl, hcs⟩ := ha.at_ (by omega)
  obtain ⟨h0, h1, h2, h3, h4⟩ := hcs i hil
  have hbl : b < w.heap.size := World.block_lt_of_cell? _ _ h0
  have hble : b ≤ w.heap.size := by omega
  clear hcs
  go_enter Tryz.func23, Tryz.ntmps23
  go_wp2_with (first | (go_at_call 46; refine (digits_any _ _ _ hs1).mono ?_; rintro e w1 ⟨rfl, hb1⟩; have hS1 : w1.cell? ⟨w.heap.size, 1, none⟩ = some (.string l[i].name) := below_cell hb1 (by simp) (by simp); have hc1 := (bcell hb1).1; have hz1 : w.heap.size < w1.heap.size := (by have := hb1.size; simp at this; omega); have hbz1 : b < w1.heap.size := (by omega)) | (go_at_call 48; refine (upper_any _).mono ?_; rintro e w2 ⟨rfl, hb2⟩; have hc2 := (bcell hb2).1; have hz2 : w.heap.size < w2.heap.size := (by have := hb2.size; omega); have hbz2 : b < w2.heap.size := (by omega)) | (go_at_call 47; refine (trim_no l[i].name _ _ hs2 (by decide) (by decide) H.out).mono ?_; rintro e w3 ⟨⟨t3, rfl, ht3⟩, hb3⟩; have hc3 := (bcell hb3).1; have hz3 : w.heap.size < w3.heap.size := (by have := hb3.size; omega); have hbz3 : b < w3.heap.size := (by omega)))
  go_region_held3 (fun w' => w'.cell? ⟨w.heap.size, 1, none⟩ = some (.string l[i].name)) (first | exact hS1 | exact hS2 | exact hS3)
    (first | (go_at_call 48; refine (upper_any _).mono ?_; rintro e w2 ⟨rfl, hb2⟩; have hS2 : w2.cell? ⟨w.heap.size, 1, none⟩ = some (.string l[i].name) := below_cell hb2 (by simp; omega) hS1; have hz2 : w.heap.size < w2.heap.size := (by have := hb2.size; simp at this; omega)) | (go_at_call 47; refine (trim_no l[i].name nameSet _ hs2 (by decide) (by decide) H.out).mono ?_; rintro e w3 ⟨⟨t3, rfl, ht3⟩, hb3⟩; have hS3 : w3.cell? ⟨w.heap.size, 1, none⟩ = some (.string l[i].name) := below_cell hb3 (by omega) hS2))
  have hB := bthen (bthen hb1.drew (Nat.le_refl _) hb2) (Nat.le_refl _) hb3
  have hcB := (bcell hB).1
  have hzB : w.heap.size < w3.heap.size := by have := hB.size; simp at this; omega
  have hbB : b < w3.heap.size := by omega
  go_wp2_with fail
  go_ret
  exact ⟨rfl, bthen (bthen (bof_alloc hb1).drew (Nat.le_refl _) hb2) (Nat.le_refl _) hb3⟩

theorem acc_c5 (l : List Acc) (A : Option Addr) (n cap i : Nat) (w : World) (hl : n ≤ 9223372036854775807) (hcap : n ≤ cap) (ha : Accs w A n l) (hil : i < l.length)
    (hs1 : l[i].code.size ≤ 9223372036854775807) (hs2 : l[i].name.size ≤ 9223372036854775807) (hd : digitsB l[i].code 6 = true) (hn1 : l[i].name.toList.isEmpty = false) (hn2 : (l[i].name.size : Int) ≤ 24) (H : Hid (allIn l[i].name nameSet = true)) (hk : l[i].kind < 1) :
    Calls Tryz.prog 23 #[.slice A n cap, .int .i64 i] w fun e w' => e = .returned (.iface 41 (.int .i64 1)) ∧ Below w.heap.size w w' := by
  have hn : l.length = n := ha.1
  have hi : i < n := by omega
  have Hn := hide hn
  clear hn
  obtain ⟨b, off, rfl, hcs⟩ := ha.at_ (by omega)
  obtain ⟨h0, h1, h2, h3, h4⟩ := hcs i hil
  have hbl : b < w.heap.size := World.block_lt_of_cell? _ _ h0
  have hble : b ≤ w.heap.size := by omega
  clear hcs
  go_enter Tryz.func23, Tryz.ntmps23
  go_wp2_with (first | (go_at_call 46; refine (digits_any _ _ _ hs1).mono ?_; rintro e w1 ⟨rfl, hb1⟩; have hS1 : w1.cell? ⟨w.heap.size, 1, none⟩ = some (.string l[i].name) := below_cell hb1 (by simp) (by simp); have hc1 := (bcell hb1).1; have hz1 : w.heap.size < w1.heap.size := (by have := hb1.size; simp at this; omega); have hbz1 : b < w1.heap.size := (by omega)) | (go_at_call 48; refine (upper_any _).mono ?_; rintro e w2 ⟨rfl, hb2⟩; have hc2 := (bcell hb2).1; have hz2 : w.heap.size < w2.heap.size := (by have := hb2.size; omega); have hbz2 : b < w2.heap.size := (by omega)) | (go_at_call 47; refine (trim_yes l[i].name _ _ hs2 (by decide) (by decide) H.out).mono ?_; rintro e w3 ⟨rfl, hb3⟩; have hc3 := (bcell hb3).1; have hz3 : w.heap.size < w3.heap.size := (by have := hb3.size; omega); have hbz3 : b < w3.heap.size := (by omega)))
  go_region_held3 (fun w' => w'.cell? ⟨w.heap.size, 1, none⟩ = some (.string l[i].name)) (first | exact hS1 | exact hS2 | exact hS3)
    (first | (go_at_call 48; refine (upper_any _).mono ?_; rintro e w2 ⟨rfl, hb2⟩; have hS2 : w2.cell? ⟨w.heap.size, 1, none⟩ = some (.string l[i].name) := below_cell hb2 (by simp; omega) hS1; have hz2 : w.heap.size < w2.heap.size := (by have := hb2.size; simp at this; omega)) | (go_at_call 47; refine (trim_yes l[i].name nameSet _ hs2 (by decide) (by decide) H.out).mono ?_; rintro e w3 ⟨rfl, hb3⟩; have hS3 : w3.cell? ⟨w.heap.size, 1, none⟩ = some (.string l[i].name) := below_cell hb3 (by omega) hS2))
  have hB := bthen (bthen hb1.drew (Nat.le_refl _) hb2) (Nat.le_refl _) hb3
  have hcB := (bcell hB).1
  have hzB : w.heap.size < w3.heap.size := by have := hB.size; simp at this; omega
  have hbB : b < w3.heap.size := by omega
  go_wp2_with fail
  go_ret
  exact ⟨rfl, bthen (bthen (bof_alloc hb1).drew (Nat.le_refl _) hb2) (Nat.le_refl _) hb3⟩

theorem acc_c6 (l : List Acc) (A : Option Addr) (n cap i : Nat) (w : World) (hl : n ≤ 9223372036854775807) (hcap : n ≤ cap) (ha : Accs w A n l) (hil : i < l.length)
    (hs1 : l[i].code.size ≤ 9223372036854775807) (hs2 : l[i].name.size ≤ 9223372036854775807) (hd : digitsB l[i].code 6 = true) (hn1 : l[i].name.toList.isEmpty = false) (hn2 : (l[i].name.size : Int) ≤ 24) (H : Hid (allIn l[i].name nameSet = true)) (hk1 : 1 ≤ l[i].kind) (hk : 5 < l[i].kind) :
    Calls Tryz.prog 23 #[.slice A n cap, .int .i64 i] w fun e w' => e = .returned (.iface 41 (.int .i64 1)) ∧ Below w.heap.size w w' := by
  have hn : l.length = n := ha.1
  have hi : i < n := by omega
  have Hn := hide hn
  clear hn
  obtain ⟨b, off, rfl, hcs⟩ := ha.at_ (by omega)
  obtain ⟨h0, h1, h2, h3, h4⟩ := hcs i hil
  have hbl : b < w.heap.size := World.block_lt_of_cell? _ _ h0
  have hble : b ≤ w.heap.size := by omega
  clear hcs
  go_enter Tryz.func23, Tryz.ntmps23
  go_wp2_with (first | (go_at_call 46; refine (digits_any _ _ _ hs1).mono ?_; rintro e w1 ⟨rfl, hb1⟩; have hS1 : w1.cell? ⟨w.heap.size, 1, none⟩ = some (.string l[i].name) := below_cell hb1 (by simp) (by simp); have hc1 := (bcell hb1).1; have hz1 : w.heap.size < w1.heap.size := (by have := hb1.size; simp at this; omega); have hbz1 : b < w1.heap.size := (by omega)) | (go_at_call 48; refine (upper_any _).mono ?_; rintro e w2 ⟨rfl, hb2⟩; have hc2 := (bcell hb2).1; have hz2 : w.heap.size < w2.heap.size := (by have := hb2.size; omega); have hbz2 : b < w2.heap.size := (by omega)) | (go_at_call 47; refine (trim_yes l[i].name _ _ hs2 (by decide) (by decide) H.out).mono ?_; rintro e w3 ⟨rfl, hb3⟩; have hc3 := (bcell hb3).1; have hz3 : w.heap.size < w3.heap.size := (by have := hb3.size; omega); have hbz3 : b < w3.heap.size := (by omega)))
  go_region_held3 (fun w' => w'.cell? ⟨w.heap.size, 1, none⟩ = some (.string l[i].name)) (first | exact hS1 | exact hS2 | exact hS3)
    (first | (go_at_call 48; refine (upper_any _).mono ?_; rintro e w2 ⟨rfl, hb2⟩; have hS2 : w2.cell? ⟨w.heap.size, 1, none⟩ = some (.string l[i].name) := below_cell hb2 (by simp; omega) hS1; have hz2 : w.heap.size < w2.heap.size := (by have := hb2.size; simp at this; omega)) | (go_at_call 47; refine (trim_yes l[i].name nameSet _ hs2 (by decide) (by decide) H.out).mono ?_; rintro e w3 ⟨rfl, hb3⟩; have hS3 : w3.cell? ⟨w.heap.size, 1, none⟩ = some (.string l[i].name) := below_cell hb3 (by omega) hS2))
  have hB := bthen (bthen hb1.drew (Nat.le_refl _) hb2) (Nat.le_refl _) hb3
  have hcB := (bcell hB).1
  have hzB : w.heap.size < w3.heap.size := by have := hB.size; simp at this; omega
  have hbB : b < w3.heap.size := by omega
  go_wp2_with fail
  go_ret
  exact ⟨rfl, bthen (bthen (bof_alloc hb1).drew (Nat.le_refl _) hb2) (Nat.le_refl _) hb3⟩

theorem acc_c7 (l : List Acc) (A : Option Addr) (n cap i : Nat) (w : World) (hl : n ≤ 9223372036854775807) (hcap : n ≤ cap) (ha : Accs w A n l) (hil : i < l.length)
    (hs1 : l[i].code.size ≤ 9223372036854775807) (hs2 : l[i].name.size ≤ 9223372036854775807) (hd : digitsB l[i].code 6 = true) (hn1 : l[i].name.toList.isEmpty = false) (hn2 : (l[i].name.size : Int) ≤ 24) (H : Hid (allIn l[i].name nameSet = true)) (hk1 : 1 ≤ l[i].kind) (hk2 : l[i].kind ≤ 5) (hi0 : 0 < i) (hlt : Op.bytesLess (l[i-1]'(by omega)).code.toList l[i].code.toList = false) :
    Calls Tryz.prog 23 #[.slice A n cap, .int .i64 i] w fun e w' => e = .returned (.iface 41 (.int .i64 5)) ∧ Below w.heap.size w w' := by
  have hn : l.length = n := ha.1
  have hi : i < n := by omega
  have Hn := hide hn
  clear hn
  obtain ⟨b, off, rfl, hcs⟩ := ha.at_ (by omega)
  obtain ⟨h0, h1, h2, h3, h4⟩ := hcs i hil
  have hbl : b < w.heap.size := World.block_lt_of_cell? _ _ h0
  have hble : b ≤ w.heap.size := by omega
  have hp := (hcs (i - 1) (by omega)).1
  clear hcs
  go_enter Tryz.func23, Tryz.ntmps23
  go_wp2_with (first | (go_at_call 46; refine (digits_any _ _ _ hs1).mono ?_; rintro e w1 ⟨rfl, hb1⟩; have hS1 : w1.cell? ⟨w.heap.size, 1, none⟩ = some (.string l[i].name) := below_cell hb1 (by simp) (by simp); have hc1 := (bcell hb1).1; have hz1 : w.heap.size < w1.heap.size := (by have := hb1.size; simp at this; omega); have hbz1 : b < w1.heap.size := (by omega)) | (go_at_call 48; refine (upper_any _).mono ?_; rintro e w2 ⟨rfl, hb2⟩; have hc2 := (bcell hb2).1; have hz2 : w.heap.size < w2.heap.size := (by have := hb2.size; omega); have hbz2 : b < w2.heap.size := (by omega)) | (go_at_call 47; refine (trim_yes l[i].name _ _ hs2 (by decide) (by decide) H.out).mono ?_; rintro e w3 ⟨rfl, hb3⟩; have hc3 := (bcell hb3).1; have hz3 : w.heap.size < w3.heap.size := (by have := hb3.size; omega); have hbz3 : b < w3.heap.size := (by omega)))
  go_region_held3 (fun w' => w'.cell? ⟨w.heap.size, 1, none⟩ = some (.string l[i].name)) (first | exact hS1 | exact hS2 | exact hS3)
    (first | (go_at_call 48; refine (upper_any _).mono ?_; rintro e w2 ⟨rfl, hb2⟩; have hS2 : w2.cell? ⟨w.heap.size, 1, none⟩ = some (.string l[i].name) := below_cell hb2 (by simp; omega) hS1; have hz2 : w.heap.size < w2.heap.size := (by have := hb2.size; simp at this; omega)) | (go_at_call 47; refine (trim_yes l[i].name nameSet _ hs2 (by decide) (by decide) H.out).mono ?_; rintro e w3 ⟨rfl, hb3⟩; have hS3 : w3.cell? ⟨w.heap.size, 1, none⟩ = some (.string l[i].name) := below_cell hb3 (by omega) hS2))
  have hB := bthen (bthen hb1.drew (Nat.le_refl _) hb2) (Nat.le_refl _) hb3
  have hcB := (bcell hB).1
  have hzB : w.heap.size < w3.heap.size := by have := hB.size; simp at this; omega
  have hbB : b < w3.heap.size := by omega
  go_wp2_with fail
  have iw : IntKind.i64.wrap ((i : Int) - 1) = (i : Int) - 1 := IntWalk.i64_in _ (by omega)
  have i0 : 0 ≤ (i : Int) - 1 := by omega
  have i1 : 1 ≤ (i : Int) := by omega
  have it : ((i : Int) - 1).toNat = i - 1 := by omega
  have il : (i : Int) - 1 < (n : Int) := by omega
  go_quiet (fail)
  clear iw it
  go_wp2_with fail
  go_ret
  exact ⟨rfl, bdrewN (bthen (bthen (bof_alloc hb1).drew (Nat.le_refl _) hb2) (Nat.le_refl _) hb3) _⟩

theorem acc_c8p (l : List Acc) (A : Option Addr) (n cap i : Nat) (w : World) (hl : n ≤ 9223372036854775807) (hcap : n ≤ cap) (ha : Accs w A n l) (hil : i < l.length)
    (hs1 : l[i].code.size ≤ 9223372036854775807) (hs2 : l[i].name.size ≤ 9223372036854775807) (hd : digitsB l[i].code 6 = true) (hn1 : l[i].name.toList.isEmpty = false) (hn2 : (l[i].name.size : Int) ≤ 24) (H : Hid (allIn l[i].name nameSet = true)) (hk1 : 1 ≤ l[i].kind) (hk2 : l[i].kind ≤ 5) (hi0 : 0 < i) (hlt : Op.bytesLess (l[i-1]'(by omega)).code.toList l[i].code.toList = true) (hpar : l[i].parent.toList.isEmpty = true) :
    Calls Tryz.prog 23 #[.slice A n cap, .int .i64 i] w fun e w' => e = .returned (.nilIface) ∧ Below w.heap.size w w' := by
  have hn : l.length = n := ha.1
  have hi : i < n := by omega
  have Hn := hide hn
  clear hn
  obtain ⟨b, off, rfl, hcs⟩ := ha.at_ (by omega)
  obtain ⟨h0, h1, h2, h3, h4⟩ := hcs i hil
  have hbl : b < w.heap.size := World.block_lt_of_cell? _ _ h0
  have hble : b ≤ w.heap.size := by omega
  have hp := (hcs (i - 1) (by omega)).1
  clear hcs
  go_enter Tryz.func23, Tryz.ntmps23
  go_wp2_with (first | (go_at_call 46; refine (digits_any _ _ _ hs1).mono ?_; rintro e w1 ⟨rfl, hb1⟩; have hS1 : w1.cell? ⟨w.heap.size, 1, none⟩ = some (.string l[i].name) := below_cell hb1 (by simp) (by simp); have hc1 := (bcell hb1).1; have hz1 : w.heap.size < w1.heap.size := (by have := hb1.size; simp at this; omega); have hbz1 : b < w1.heap.size := (by omega)) | (go_at_call 48; refine (upper_any _).mono ?_; rintro e w2 ⟨rfl, hb2⟩; have hc2 := (bcell hb2).1; have hz2 : w.heap.size < w2.heap.size := (by have := hb2.size; omega); have hbz2 : b < w2.heap.size := (by omega)) | (go_at_call 47; refine (trim_yes l[i].name _ _ hs2 (by decide) (by decide) H.out).mono ?_; rintro e w3 ⟨rfl, hb3⟩; have hc3 := (bcell hb3).1; have hz3 : w.heap.size < w3.heap.size := (by have := hb3.size; omega); have hbz3 : b < w3.heap.size := (by omega)))
  go_region_held3 (fun w' => w'.cell? ⟨w.heap.size, 1, none⟩ = some (.string l[i].name)) (first | exact hS1 | exact hS2 | exact hS3)
    (first | (go_at_call 48; refine (upper_any _).mono ?_; rintro e w2 ⟨rfl, hb2⟩; have hS2 : w2.cell? ⟨w.heap.size, 1, none⟩ = some (.string l[i].name) := below_cell hb2 (by simp; omega) hS1; have hz2 : w.heap.size < w2.heap.size := (by have := hb2.size; simp at this; omega)) | (go_at_call 47; refine (trim_yes l[i].name nameSet _ hs2 (by decide) (by decide) H.out).mono ?_; rintro e w3 ⟨rfl, hb3⟩; have hS3 : w3.cell? ⟨w.heap.size, 1, none⟩ = some (.string l[i].name) := below_cell hb3 (by omega) hS2))
  have hB := bthen (bthen hb1.drew (Nat.le_refl _) hb2) (Nat.le_refl _) hb3
  have hcB := (bcell hB).1
  have hzB : w.heap.size < w3.heap.size := by have := hB.size; simp at this; omega
  have hbB : b < w3.heap.size := by omega
  go_wp2_with fail
  have iw : IntKind.i64.wrap ((i : Int) - 1) = (i : Int) - 1 := IntWalk.i64_in _ (by omega)
  have i0 : 0 ≤ (i : Int) - 1 := by omega
  have i1 : 1 ≤ (i : Int) := by omega
  have it : ((i : Int) - 1).toNat = i - 1 := by omega
  have il : (i : Int) - 1 < (n : Int) := by omega
  go_quiet (fail)
  clear iw it
  go_wp2_with fail
  go_ret
  exact ⟨rfl, bdrewN (bthen (bthen (bof_alloc hb1).drew (Nat.le_refl _) hb2) (Nat.le_refl _) hb3) _⟩

theorem acc_c9p (l : List Acc) (A : Option Addr) (n cap i : Nat) (w : World) (hl : n ≤ 9223372036854775807) (hcap : n ≤ cap) (ha : Accs w A n l) (hil : i < l.length)
    (hs1 : l[i].code.size ≤ 9223372036854775807) (hs2 : l[i].name.size ≤ 9223372036854775807) (hd : digitsB l[i].code 6 = true) (hn1 : l[i].name.toList.isEmpty = false) (hn2 : (l[i].name.size : Int) ≤ 24) (H : Hid (allIn l[i].name nameSet = true)) (hk1 : 1 ≤ l[i].kind) (hk2 : l[i].kind ≤ 5) (hi0 : 0 < i) (hlt : Op.bytesLess (l[i-1]'(by omega)).code.toList l[i].code.toList = true) (hpar : l[i].parent.toList.isEmpty = false) (hk : idxI (l.take i) l[i].parent < 0) :
    Calls Tryz.prog 23 #[.slice A n cap, .int .i64 i] w fun e w' => e = .returned (.iface 41 (.int .i64 6)) ∧ Below w.heap.size w w' := by
  have hn : l.length = n := ha.1
  have hi : i < n := by omega
  have Hn := hide hn
  clear hn
  obtain ⟨b, off, rfl, hcs⟩ := ha.at_ (by omega)
  obtain ⟨h0, h1, h2, h3, h4⟩ := hcs i hil
  have hbl : b < w.heap.size := World.block_lt_of_cell? _ _ h0
  have hble : b ≤ w.heap.size := by omega
  have hp := (hcs (i - 1) (by omega)).1
  clear hcs
  go_enter Tryz.func23, Tryz.ntmps23
  go_wp2_with (first | (go_at_call 46; refine (digits_any _ _ _ hs1).mono ?_; rintro e w1 ⟨rfl, hb1⟩; have hS1 : w1.cell? ⟨w.heap.size, 1, none⟩ = some (.string l[i].name) := below_cell hb1 (by simp) (by simp); have hc1 := (bcell hb1).1; have hz1 : w.heap.size < w1.heap.size := (by have := hb1.size; simp at this; omega); have hbz1 : b < w1.heap.size := (by omega)) | (go_at_call 48; refine (upper_any _).mono ?_; rintro e w2 ⟨rfl, hb2⟩; have hc2 := (bcell hb2).1; have hz2 : w.heap.size < w2.heap.size := (by have := hb2.size; omega); have hbz2 : b < w2.heap.size := (by omega)) | (go_at_call 47; refine (trim_yes l[i].name _ _ hs2 (by decide) (by decide) H.out).mono ?_; rintro e w3 ⟨rfl, hb3⟩; have hc3 := (bcell hb3).1; have hz3 : w.heap.size < w3.heap.size := (by have := hb3.size; omega); have hbz3 : b < w3.heap.size := (by omega)))
  go_region_held3 (fun w' => w'.cell? ⟨w.heap.size, 1, none⟩ = some (.string l[i].name)) (first | exact hS1 | exact hS2 | exact hS3)
    (first | (go_at_call 48; refine (upper_any _).mono ?_; rintro e w2 ⟨rfl, hb2⟩; have hS2 : w2.cell? ⟨w.heap.size, 1, none⟩ = some (.string l[i].name) := below_cell hb2 (by simp; omega) hS1; have hz2 : w.heap.size < w2.heap.size := (by have := hb2.size; simp at this; omega)) | (go_at_call 47; refine (trim_yes l[i].name nameSet _ hs2 (by decide) (by decide) H.out).mono ?_; rintro e w3 ⟨rfl, hb3⟩; have hS3 : w3.cell? ⟨w.heap.size, 1, none⟩ = some (.string l[i].name) := below_cell hb3 (by omega) hS2))
  have hB := bthen (bthen hb1.drew (Nat.le_refl _) hb2) (Nat.le_refl _) hb3
  have hcB := (bcell hB).1
  have hzB : w.heap.size < w3.heap.size := by have := hB.size; simp at this; omega
  have hbB : b < w3.heap.size := by omega
  go_wp2_with fail
  have iw : IntKind.i64.wrap ((i : Int) - 1) = (i : Int) - 1 := IntWalk.i64_in _ (by omega)
  have i0 : 0 ≤ (i : Int) - 1 := by omega
  have i1 : 1 ≤ (i : Int) := by omega
  have it : ((i : Int) - 1).toNat = i - 1 := by omega
  have il : (i : Int) - 1 < (n : Int) := by omega
  go_quiet (fail)
  clear iw it
  go_wp2_with fail
  have hBw : Below w.heap.size w w3 := bthen (bthen (bof_alloc hb1).drew (Nat.le_refl _) hb2) (Nat.le_refl _) hb3
  have hP3 : w3.cell? ⟨w.heap.size, 3, none⟩ = some (.string l[i].parent) := below_cell hB (by simp) (by simp)
  have j0 : (0 : Int) ≤ (i : Int) := by omega
  have j1 : (i : Int) ≤ (cap : Int) := by omega
  go_region_held3 (fun w' => w'.cell? ⟨w.heap.size, 3, none⟩ = some (.string l[i].parent)) (first | exact hP3 | exact hP4)
    (first | (go_at_call 49; refine (index_any (l.take i) _ _ _ _ _ (by omega) (Rd.take (ha.below (by first | exact hBw | exact hBw.drew | exact bdrewN hBw _ | exact (bdrewN hBw _).drew)) (by omega))).mono ?_; rintro e w4 ⟨rfl, hb4⟩; have hP4 : w4.cell? ⟨w.heap.size, 3, none⟩ = some (.string l[i].parent) := below_cell hb4 (by simp; omega) hP3))
  go_wp2_with fail
  go_ret
  exact ⟨rfl, bthen (bdrewN (bthen (bthen (bof_alloc hb1).drew (Nat.le_refl _) hb2) (Nat.le_refl _) hb3) _) (Nat.le_refl _) hb4⟩

theorem acc_c8z (l : List Acc) (A : Option Addr) (n cap i : Nat) (w : World) (hl : n ≤ 9223372036854775807) (hcap : n ≤ cap) (ha : Accs w A n l) (hil : i < l.length)
    (hs1 : l[i].code.size ≤ 9223372036854775807) (hs2 : l[i].name.size ≤ 9223372036854775807) (hd : digitsB l[i].code 6 = true) (hn1 : l[i].name.toList.isEmpty = false) (hn2 : (l[i].name.size : Int) ≤ 24) (H : Hid (allIn l[i].name nameSet = true)) (hk1 : 1 ≤ l[i].kind) (hk2 : l[i].kind ≤ 5) (hi0 : decide (0 < i) = false) (hpar : l[i].parent.toList.isEmpty = true) :
    Calls Tryz.prog 23 #[.slice A n cap, .int .i64 i] w fun e w' => e = .returned (.nilIface) ∧ Below w.heap.size w w' := by
  have hn : l.length = n := ha.1
  have hi : i < n := by omega
  have Hn := hide hn
  clear hn
  obtain ⟨b, off, rfl, hcs⟩ := ha.at_ (by omega)
  obtain ⟨h0, h1, h2, h3, h4⟩ := hcs i hil
  have hbl : b < w.heap.size := World.block_lt_of_cell? _ _ h0
  have hble : b ≤ w.heap.size := by omega
  clear hcs
  go_enter Tryz.func23, Tryz.ntmps23
  go_wp2_with (first | (go_at_call 46; refine (digits_any _ _ _ hs1).mono ?_; rintro e w1 ⟨rfl, hb1⟩; have hS1 : w1.cell? ⟨w.heap.size, 1, none⟩ = some (.string l[i].name) := below_cell hb1 (by simp) (by simp); have hc1 := (bcell hb1).1; have hz1 : w.heap.size < w1.heap.size := (by have := hb1.size; simp at this; omega); have hbz1 : b < w1.heap.size := (by omega)) | (go_at_call 48; refine (upper_any _).mono ?_; rintro e w2 ⟨rfl, hb2⟩; have hc2 := (bcell hb2).1; have hz2 : w.heap.size < w2.heap.size := (by have := hb2.size; omega); have hbz2 : b < w2.heap.size := (by omega)) | (go_at_call 47; refine (trim_yes l[i].name _ _ hs2 (by decide) (by decide) H.out).mono ?_; rintro e w3 ⟨rfl, hb3⟩; have hc3 := (bcell hb3).1; have hz3 : w.heap.size < w3.heap.size := (by have := hb3.size; omega); have hbz3 : b < w3.heap.size := (by omega)))
  go_region_held3 (fun w' => w'.cell? ⟨w.heap.size, 1, none⟩ = some (.string l[i].name)) (first | exact hS1 | exact hS2 | exact hS3)
    (first | (go_at_call 48; refine (upper_any _).mono ?_; rintro e w2 ⟨rfl, hb2⟩; have hS2 : w2.cell? ⟨w.heap.size, 1, none⟩ = some (.string l[i].name) := below_cell hb2 (by simp; omega) hS1; have hz2 : w.heap.size < w2.heap.size := (by have := hb2.size; simp at this; omega)) | (go_at_call 47; refine (trim_yes l[i].name nameSet _ hs2 (by decide) (by decide) H.out).mono ?_; rintro e w3 ⟨rfl, hb3⟩; have hS3 : w3.cell? ⟨w.heap.size, 1, none⟩ = some (.string l[i].name) := below_cell hb3 (by omega) hS2))
  have hB := bthen (bthen hb1.drew (Nat.le_refl _) hb2) (Nat.le_refl _) hb3
  have hcB := (bcell hB).1
  have hzB : w.heap.size < w3.heap.size := by have := hB.size; simp at this; omega
  have hbB : b < w3.heap.size := by omega
  go_wp2_with fail
  go_quiet (fail)
  go_wp2_with fail
  go_ret
  exact ⟨rfl, bdrewN (bthen (bthen (bof_alloc hb1).drew (Nat.le_refl _) hb2) (Nat.le_refl _) hb3) _⟩

theorem acc_c9z (l : List Acc) (A : Option Addr) (n cap i : Nat) (w : World) (hl : n ≤ 9223372036854775807) (hcap : n ≤ cap) (ha : Accs w A n l) (hil : i < l.length)
    (hs1 : l[i].code.size ≤ 9223372036854775807) (hs2 : l[i].name.size ≤ 9223372036854775807) (hd : digitsB l[i].code 6 = true) (hn1 : l[i].name.toList.isEmpty = false) (hn2 : (l[i].name.size : Int) ≤ 24) (H : Hid (allIn l[i].name nameSet = true)) (hk1 : 1 ≤ l[i].kind) (hk2 : l[i].kind ≤ 5) (hi0 : decide (0 < i) = false) (hpar : l[i].parent.toList.isEmpty = false) (hk : idxI (l.take i) l[i].parent < 0) :
    Calls Tryz.prog 23 #[.slice A n cap, .int .i64 i] w fun e w' => e = .returned (.iface 41 (.int .i64 6)) ∧ Below w.heap.size w w' := by
  have hn : l.length = n := ha.1
  have hi : i < n := by omega
  have Hn := hide hn
  clear hn
  obtain ⟨b, off, rfl, hcs⟩ := ha.at_ (by omega)
  obtain ⟨h0, h1, h2, h3, h4⟩ := hcs i hil
  have hbl : b < w.heap.size := World.block_lt_of_cell? _ _ h0
  have hble : b ≤ w.heap.size := by omega
  clear hcs
  go_enter Tryz.func23, Tryz.ntmps23
  go_wp2_with (first | (go_at_call 46; refine (digits_any _ _ _ hs1).mono ?_; rintro e w1 ⟨rfl, hb1⟩; have hS1 : w1.cell? ⟨w.heap.size, 1, none⟩ = some (.string l[i].name) := below_cell hb1 (by simp) (by simp); have hc1 := (bcell hb1).1; have hz1 : w.heap.size < w1.heap.size := (by have := hb1.size; simp at this; omega); have hbz1 : b < w1.heap.size := (by omega)) | (go_at_call 48; refine (upper_any _).mono ?_; rintro e w2 ⟨rfl, hb2⟩; have hc2 := (bcell hb2).1; have hz2 : w.heap.size < w2.heap.size := (by have := hb2.size; omega); have hbz2 : b < w2.heap.size := (by omega)) | (go_at_call 47; refine (trim_yes l[i].name _ _ hs2 (by decide) (by decide) H.out).mono ?_; rintro e w3 ⟨rfl, hb3⟩; have hc3 := (bcell hb3).1; have hz3 : w.heap.size < w3.heap.size := (by have := hb3.size; omega); have hbz3 : b < w3.heap.size := (by omega)))
  go_region_held3 (fun w' => w'.cell? ⟨w.heap.size, 1, none⟩ = some (.string l[i].name)) (first | exact hS1 | exact hS2 | exact hS3)
    (first | (go_at_call 48; refine (upper_any _).mono ?_; rintro e w2 ⟨rfl, hb2⟩; have hS2 : w2.cell? ⟨w.heap.size, 1, none⟩ = some (.string l[i].name) := below_cell hb2 (by simp; omega) hS1; have hz2 : w.heap.size < w2.heap.size := (by have := hb2.size; simp at this; omega)) | (go_at_call 47; refine (trim_yes l[i].name nameSet _ hs2 (by decide) (by decide) H.out).mono ?_; rintro e w3 ⟨rfl, hb3⟩; have hS3 : w3.cell? ⟨w.heap.size, 1, none⟩ = some (.string l[i].name) := below_cell hb3 (by omega) hS2))
  have hB := bthen (bthen hb1.drew (Nat.le_refl _) hb2) (Nat.le_refl _) hb3
  have hcB := (bcell hB).1
  have hzB : w.heap.size < w3.heap.size := by have := hB.size; simp at this; omega
  have hbB : b < w3.heap.size := by omega
  go_wp2_with fail
  go_quiet (fail)
  go_wp2_with fail
  have hBw : Below w.heap.size w w3 := bthen (bthen (bof_alloc hb1).drew (Nat.le_refl _) hb2) (Nat.le_refl _) hb3
  have hP3 : w3.cell? ⟨w.heap.size, 3, none⟩ = some (.string l[i].parent) := below_cell hB (by simp) (by simp)
  have j0 : (0 : Int) ≤ (i : Int) := by omega
  have j1 : (i : Int) ≤ (cap : Int) := by omega
  go_region_held3 (fun w' => w'.cell? ⟨w.heap.size, 3, none⟩ = some (.string l[i].parent)) (first | exact hP3 | exact hP4)
    (first | (go_at_call 49; refine (index_any (l.take i) _ _ _ _ _ (by omega) (Rd.take (ha.below (by first | exact hBw | exact hBw.drew | exact bdrewN hBw _ | exact (bdrewN hBw _).drew)) (by omega))).mono ?_; rintro e w4 ⟨rfl, hb4⟩; have hP4 : w4.cell? ⟨w.heap.size, 3, none⟩ = some (.string l[i].parent) := below_cell hb4 (by simp; omega) hP3))
  go_wp2_with fail
  go_ret
  exact ⟨rfl, bthen (bdrewN (bthen (bthen (bof_alloc hb1).drew (Nat.le_refl _) hb2) (Nat.le_refl _) hb3) _) (Nat.le_refl _) hb4⟩

theorem acc_c10p (l : List Acc) (A : Option Addr) (n cap i : Nat) (w : World) (hl : n ≤ 9223372036854775807) (hcap : n ≤ cap) (ha : Accs w A n l) (hil : i < l.length)
    (hs1 : l[i].code.size ≤ 9223372036854775807) (hs2 : l[i].name.size ≤ 9223372036854775807) (hd : digitsB l[i].code 6 = true) (hn1 : l[i].name.toList.isEmpty = false) (hn2 : (l[i].name.size : Int) ≤ 24) (H : Hid (allIn l[i].name nameSet = true)) (hk1 : 1 ≤ l[i].kind) (hk2 : l[i].kind ≤ 5) (hi0 : 0 < i) (hlt : Op.bytesLess (l[i-1]'(by omega)).code.toList l[i].code.toList = true) (kk : Nat) (hkk : kk < i) (hpar : l[i].parent.toList.isEmpty = false) (HK : Hid (idxI (l.take i) l[i].parent = kk)) (hkd : (l[kk]'(by omega)).kind ≠ l[i].kind) :
    Calls Tryz.prog 23 #[.slice A n cap, .int .i64 i] w fun e w' => e = .returned (.iface 41 (.int .i64 12)) ∧ Below w.heap.size w w' := by
  have hn : l.length = n := ha.1
  have hi : i < n := by omega
  have Hn := hide hn
  clear hn
  obtain ⟨b, off, rfl, hcs⟩ := ha.at_ (by omega)
  obtain ⟨h0, h1, h2, h3, h4⟩ := hcs i hil
  have hbl : b < w.heap.size := World.block_lt_of_cell? _ _ h0
  have hble : b ≤ w.heap.size := by omega
  have hp := (hcs (i - 1) (by omega)).1
  have hq := (hcs kk (by omega)).2.2.1
  have hqi : (kk : Int) < (n : Int) := by omega
  have kd1 : ((l[kk]'(by omega)).kind == l[i].kind) = false := by simp [hkd]
  have kd2 : ((l[kk]'(by omega)).kind != l[i].kind) = true := by simp [hkd]
  clear hkd
  clear hcs
  go_enter Tryz.func23, Tryz.ntmps23
  go_wp2_with (first | (go_at_call 46; refine (digits_any _ _ _ hs1).mono ?_; rintro e w1 ⟨rfl, hb1⟩; have hS1 : w1.cell? ⟨w.heap.size, 1, none⟩ = some (.string l[i].name) := below_cell hb1 (by simp) (by simp); have hc1 := (bcell hb1).1; have hz1 : w.heap.size < w1.heap.size := (by have := hb1.size; simp at this; omega); have hbz1 : b < w1.heap.size := (by omega)) | (go_at_call 48; refine (upper_any _).mono ?_; rintro e w2 ⟨rfl, hb2⟩; have hc2 := (bcell hb2).1; have hz2 : w.heap.size < w2.heap.size := (by have := hb2.size; omega); have hbz2 : b < w2.heap.size := (by omega)) | (go_at_call 47; refine (trim_yes l[i].name _ _ hs2 (by decide) (by decide) H.out).mono ?_; rintro e w3 ⟨rfl, hb3⟩; have hc3 := (bcell hb3).1; have hz3 : w.heap.size < w3.heap.size := (by have := hb3.size; omega); have hbz3 : b < w3.heap.size := (by omega)))
  go_region_held3 (fun w' => w'.cell? ⟨w.heap.size, 1, none⟩ = some (.string l[i].name)) (first | exact hS1 | exact hS2 | exact hS3)
    (first | (go_at_call 48; refine (upper_any _).mono ?_; rintro e w2 ⟨rfl, hb2⟩; have hS2 : w2.cell? ⟨w.heap.size, 1, none⟩ = some (.string l[i].name) := below_cell hb2 (by simp; omega) hS1; have hz2 : w.heap.size < w2.heap.size := (by have := hb2.size; simp at this; omega)) | (go_at_call 47; refine (trim_yes l[i].name nameSet _ hs2 (by decide) (by decide) H.out).mono ?_; rintro e w3 ⟨rfl, hb3⟩; have hS3 : w3.cell? ⟨w.heap.size, 1, none⟩ = some (.string l[i].name) := below_cell hb3 (by omega) hS2))
  have hB := bthen (bthen hb1.drew (Nat.le_refl _) hb2) (Nat.le_refl _) hb3
  have hcB := (bcell hB).1
  have hzB : w.heap.size < w3.heap.size := by have := hB.size; simp at this; omega
  have hbB : b < w3.heap.size := by omega
  go_wp2_with fail
  have iw : IntKind.i64.wrap ((i : Int) - 1) = (i : Int) - 1 := IntWalk.i64_in _ (by omega)
  have i0 : 0 ≤ (i : Int) - 1 := by omega
  have i1 : 1 ≤ (i : Int) := by omega
  have it : ((i : Int) - 1).toNat = i - 1 := by omega
  have il : (i : Int) - 1 < (n : Int) := by omega
  go_quiet (fail)
  clear iw it
  go_wp2_with fail
  have hBw : Below w.heap.size w w3 := bthen (bthen (bof_alloc hb1).drew (Nat.le_refl _) hb2) (Nat.le_refl _) hb3
  have hP3 : w3.cell? ⟨w.heap.size, 3, none⟩ = some (.string l[i].parent) := below_cell hB (by simp) (by simp)
  have j0 : (0 : Int) ≤ (i : Int) := by omega
  have j1 : (i : Int) ≤ (cap : Int) := by omega
  go_region_held3 (fun w' => w'.cell? ⟨w.heap.size, 3, none⟩ = some (.string l[i].parent)) (first | exact hP3 | exact hP4)
    (first | (go_at_call 49; refine (index_at (l.take i) _ kk _ _ _ _ (by omega) (Rd.take (ha.below (by first | exact hBw | exact hBw.drew | exact bdrewN hBw _ | exact (bdrewN hBw _).drew)) (by omega)) HK.out).mono ?_; rintro e w4 ⟨rfl, hb4⟩; have hP4 : w4.cell? ⟨w.heap.size, 3, none⟩ = some (.string l[i].parent) := below_cell hb4 (by simp; omega) hP3))
  have hB4 := bthen (bdrewN hB _) (Nat.le_refl _) hb4
  have hc4 := (bcell hB4).1
  have hz4 : w.heap.size < w4.heap.size := by have := hB4.size; simp at this; omega
  have hb4l : b < w4.heap.size := by omega
  clear hcB
  go_wp2_with fail
  have hq0 : 0 ≤ (kk : Int) := by omega
  go_quiet (fail)
  go_wp2_with fail
  go_ret
  exact ⟨rfl, bdrewN (bof_alloc hB4) _⟩

theorem acc_c11p (l : List Acc) (A : Option Addr) (n cap i : Nat) (w : World) (hl : n ≤ 9223372036854775807) (hcap : n ≤ cap) (ha : Accs w A n l) (hil : i < l.length)
    (hs1 : l[i].code.size ≤ 9223372036854775807) (hs2 : l[i].name.size ≤ 9223372036854775807) (hd : digitsB l[i].code 6 = true) (hn1 : l[i].name.toList.isEmpty = false) (hn2 : (l[i].name.size : Int) ≤ 24) (H : Hid (allIn l[i].name nameSet = true)) (hk1 : 1 ≤ l[i].kind) (hk2 : l[i].kind ≤ 5) (hi0 : 0 < i) (hlt : Op.bytesLess (l[i-1]'(by omega)).code.toList l[i].code.toList = true) (kk : Nat) (hkk : kk < i) (hpar : l[i].parent.toList.isEmpty = false) (HK : Hid (idxI (l.take i) l[i].parent = kk)) (hkd : (l[kk]'(by omega)).kind = l[i].kind) :
    Calls Tryz.prog 23 #[.slice A n cap, .int .i64 i] w fun e w' => e = .returned (.nilIface) ∧ Below w.heap.size w w' := by
  have hn : l.length = n := ha.1
  have hi : i < n := by omega
  have Hn := hide hn
  clear hn
  obtain ⟨b, off, rfl, hcs⟩ := ha.at_ (by omega)
  obtain ⟨h0, h1, h2, h3, h4⟩ := hcs i hil
  have hbl : b < w.heap.size := World.block_lt_of_cell? _ _ h0
  have hble : b ≤ w.heap.size := by omega
  have hp := (hcs (i - 1) (by omega)).1
  have hq := (hcs kk (by omega)).2.2.1
  have hqi : (kk : Int) < (n : Int) := by omega
  have kd1 : ((l[kk]'(by omega)).kind == l[i].kind) = true := by simp [hkd]
  have kd2 : ((l[kk]'(by omega)).kind != l[i].kind) = false := by simp [hkd]
  clear hkd
  clear hcs
  go_enter Tryz.func23, Tryz.ntmps23
  go_wp2_with (first | (go_at_call 46; refine (digits_any _ _ _ hs1).mono ?_; rintro e w1 ⟨rfl, hb1⟩; have hS1 : w1.cell? ⟨w.heap.size, 1, none⟩ = some (.string l[i].name) := below_cell hb1 (by simp) (by simp); have hc1 := (bcell hb1).1; have hz1 : w.heap.size < w1.heap.size := (by have := hb1.size; simp at this; omega); have hbz1 : b < w1.heap.size := (by omega)) | (go_at_call 48; refine (upper_any _).mono ?_; rintro e w2 ⟨rfl, hb2⟩; have hc2 := (bcell hb2).1; have hz2 : w.heap.size < w2.heap.size := (by have := hb2.size; omega); have hbz2 : b < w2.heap.size := (by omega)) | (go_at_call 47; refine (trim_yes l[i].name _ _ hs2 (by decide) (by decide) H.out).mono ?_; rintro e w3 ⟨rfl, hb3⟩; have hc3 := (bcell hb3).1; have hz3 : w.heap.size < w3.heap.size := (by have := hb3.size; omega); have hbz3 : b < w3.heap.size := (by omega)))
  go_region_held3 (fun w' => w'.cell? ⟨w.heap.size, 1, none⟩ = some (.string l[i].name)) (first | exact hS1 | exact hS2 | exact hS3)
    (first | (go_at_call 48; refine (upper_any _).mono ?_; rintro e w2 ⟨rfl, hb2⟩; have hS2 : w2.cell? ⟨w.heap.size, 1, none⟩ = some (.string l[i].name) := below_cell hb2 (by simp; omega) hS1; have hz2 : w.heap.size < w2.heap.size := (by have := hb2.size; simp at this; omega)) | (go_at_call 47; refine (trim_yes l[i].name nameSet _ hs2 (by decide) (by decide) H.out).mono ?_; rintro e w3 ⟨rfl, hb3⟩; have hS3 : w3.cell? ⟨w.heap.size, 1, none⟩ = some (.string l[i].name) := below_cell hb3 (by omega) hS2))
  have hB := bthen (bthen hb1.drew (Nat.le_refl _) hb2) (Nat.le_refl _) hb3
  have hcB := (bcell hB).1
  have hzB : w.heap.size < w3.heap.size := by have := hB.size; simp at this; omega
  have hbB : b < w3.heap.size := by omega
  go_wp2_with fail
  have iw : IntKind.i64.wrap ((i : Int) - 1) = (i : Int) - 1 := IntWalk.i64_in _ (by omega)
  have i0 : 0 ≤ (i : Int) - 1 := by omega
  have i1 : 1 ≤ (i : Int) := by omega
  have it : ((i : Int) - 1).toNat = i - 1 := by omega
  have il : (i : Int) - 1 < (n : Int) := by omega
  go_quiet (fail)
  clear iw it
  go_wp2_with fail
  have hBw : Below w.heap.size w w3 := bthen (bthen (bof_alloc hb1).drew (Nat.le_refl _) hb2) (Nat.le_refl _) hb3
  have hP3 : w3.cell? ⟨w.heap.size, 3, none⟩ = some (.string l[i].parent) := below_cell hB (by simp) (by simp)
  have j0 : (0 : Int) ≤ (i : Int) := by omega
  have j1 : (i : Int) ≤ (cap : Int) := by omega
  go_region_held3 (fun w' => w'.cell? ⟨w.heap.size, 3, none⟩ = some (.string l[i].parent)) (first | exact hP3 | exact hP4)
    (first | (go_at_call 49; refine (index_at (l.take i) _ kk _ _ _ _ (by omega) (Rd.take (ha.below (by first | exact hBw | exact hBw.drew | exact bdrewN hBw _ | exact (bdrewN hBw _).drew)) (by omega)) HK.out).mono ?_; rintro e w4 ⟨rfl, hb4⟩; have hP4 : w4.cell? ⟨w.heap.size, 3, none⟩ = some (.string l[i].parent) := below_cell hb4 (by simp; omega) hP3))
  have hB4 := bthen (bdrewN hB _) (Nat.le_refl _) hb4
  have hc4 := (bcell hB4).1
  have hz4 : w.heap.size < w4.heap.size := by have := hB4.size; simp at this; omega
  have hb4l : b < w4.heap.size := by omega
  clear hcB
  go_wp2_with fail
  have hq0 : 0 ≤ (kk : Int) := by omega
  go_quiet (fail)
  go_wp2_with fail
  go_ret
  exact ⟨rfl, bdrewN (bof_alloc hB4) _⟩

theorem acc_c10z (l : List Acc) (A : Option Addr) (n cap i : Nat) (w : World) (hl : n ≤ 9223372036854775807) (hcap : n ≤ cap) (ha : Accs w A n l) (hil : i < l.length)
    (hs1 : l[i].code.size ≤ 9223372036854775807) (hs2 : l[i].name.size ≤ 9223372036854775807) (hd : digitsB l[i].code 6 = true) (hn1 : l[i].name.toList.isEmpty = false) (hn2 : (l[i].name.size : Int) ≤ 24) (H : Hid (allIn l[i].name nameSet = true)) (hk1 : 1 ≤ l[i].kind) (hk2 : l[i].kind ≤ 5) (hi0 : decide (0 < i) = false) (kk : Nat) (hkk : kk < i) (hpar : l[i].parent.toList.isEmpty = false) (HK : Hid (idxI (l.take i) l[i].parent = kk)) (hkd : (l[kk]'(by omega)).kind ≠ l[i].kind) :
    Calls Tryz.prog 23 #[.slice A n cap, .int .i64 i] w fun e w' => e = .returned (.iface 41 (.int .i64 12)) ∧ Below w.heap.size w w' := by
  have hn : l.length = n := ha.1
  have hi : i < n := by omega
  have Hn := hide hn
  clear hn
  obtain ⟨b, off, rfl, hcs⟩ := ha.at_ (by omega)
  obtain ⟨h0, h1, h2, h3, h4⟩ := hcs i hil
  have hbl : b < w.heap.size := World.block_lt_of_cell? _ _ h0
  have hble : b ≤ w.heap.size := by omega
  have hq := (hcs kk (by omega)).2.2.1
  have hqi : (kk : Int) < (n : Int) := by omega
  have kd1 : ((l[kk]'(by omega)).kind == l[i].kind) = false := by simp [hkd]
  have kd2 : ((l[kk]'(by omega)).kind != l[i].kind) = true := by simp [hkd]
  clear hkd
  clear hcs
  go_enter Tryz.func23, Tryz.ntmps23
  go_wp2_with (first | (go_at_call 46; refine (digits_any _ _ _ hs1).mono ?_; rintro e w1 ⟨rfl, hb1⟩; have hS1 : w1.cell? ⟨w.heap.size, 1, none⟩ = some (.string l[i].name) := below_cell hb1 (by simp) (by simp); have hc1 := (bcell hb1).1; have hz1 : w.heap.size < w1.heap.size := (by have := hb1.size; simp at this; omega); have hbz1 : b < w1.heap.size := (by omega)) | (go_at_call 48; refine (upper_any _).mono ?_; rintro e w2 ⟨rfl, hb2⟩; have hc2 := (bcell hb2).1; have hz2 : w.heap.size < w2.heap.size := (by have := hb2.size; omega); have hbz2 : b < w2.heap.size := (by omega)) | (go_at_call 47; refine (trim_yes l[i].name _ _ hs2 (by decide) (by decide) H.out).mono ?_; rintro e w3 ⟨rfl, hb3⟩; have hc3 := (bcell hb3).1; have hz3 : w.heap.size < w3.heap.size := (by have := hb3.size; omega); have hbz3 : b < w3.heap.size := (by omega)))
  go_region_held3 (fun w' => w'.cell? ⟨w.heap.size, 1, none⟩ = some (.string l[i].name)) (first | exact hS1 | exact hS2 | exact hS3)
    (first | (go_at_call 48; refine (upper_any _).mono ?_; rintro e w2 ⟨rfl, hb2⟩; have hS2 : w2.cell? ⟨w.heap.size, 1, none⟩ = some (.string l[i].name) := below_cell hb2 (by simp; omega) hS1; have hz2 : w.heap.size < w2.heap.size := (by have := hb2.size; simp at this; omega)) | (go_at_call 47; refine (trim_yes l[i].name nameSet _ hs2 (by decide) (by decide) H.out).mono ?_; rintro e w3 ⟨rfl, hb3⟩; have hS3 : w3.cell? ⟨w.heap.size, 1, none⟩ = some (.string l[i].name) := below_cell hb3 (by omega) hS2))
  have hB := bthen (bthen hb1.drew (Nat.le_refl _) hb2) (Nat.le_refl _) hb3
  have hcB := (bcell hB).1
  have hzB : w.heap.size < w3.heap.size := by have := hB.size; simp at this; omega
  have hbB : b < w3.heap.size := by omega
  go_wp2_with fail
  go_quiet (fail)
  go_wp2_with fail
  have hBw : Below w.heap.size w w3 := bthen (bthen (bof_alloc hb1).drew (Nat.le_refl _) hb2) (Nat.le_refl _) hb3
  have hP3 : w3.cell? ⟨w.heap.size, 3, none⟩ = some (.string l[i].parent) := below_cell hB (by simp) (by simp)
  have j0 : (0 : Int) ≤ (i : Int) := by omega
  have j1 : (i : Int) ≤ (cap : Int) := by omega
  go_region_held3 (fun w' => w'.cell? ⟨w.heap.size, 3, none⟩ = some (.string l[i].parent)) (first | exact hP3 | exact hP4)
    (first | (go_at_call 49; refine (index_at (l.take i) _ kk _ _ _ _ (by omega) (Rd.take (ha.below (by first | exact hBw | exact hBw.drew | exact bdrewN hBw _ | exact (bdrewN hBw _).drew)) (by omega)) HK.out).mono ?_; rintro e w4 ⟨rfl, hb4⟩; have hP4 : w4.cell? ⟨w.heap.size, 3, none⟩ = some (.string l[i].parent) := below_cell hb4 (by simp; omega) hP3))
  have hB4 := bthen (bdrewN hB _) (Nat.le_refl _) hb4
  have hc4 := (bcell hB4).1
  have hz4 : w.heap.size < w4.heap.size := by have := hB4.size; simp at this; omega
  have hb4l : b < w4.heap.size := by omega
  clear hcB
  go_wp2_with fail
  have hq0 : 0 ≤ (kk : Int) := by omega
  go_quiet (fail)
  go_wp2_with fail
  go_ret
  exact ⟨rfl, bdrewN (bof_alloc hB4) _⟩

theorem acc_c11z (l : List Acc) (A : Option Addr) (n cap i : Nat) (w : World) (hl : n ≤ 9223372036854775807) (hcap : n ≤ cap) (ha : Accs w A n l) (hil : i < l.length)
    (hs1 : l[i].code.size ≤ 9223372036854775807) (hs2 : l[i].name.size ≤ 9223372036854775807) (hd : digitsB l[i].code 6 = true) (hn1 : l[i].name.toList.isEmpty = false) (hn2 : (l[i].name.size : Int) ≤ 24) (H : Hid (allIn l[i].name nameSet = true)) (hk1 : 1 ≤ l[i].kind) (hk2 : l[i].kind ≤ 5) (hi0 : decide (0 < i) = false) (kk : Nat) (hkk : kk < i) (hpar : l[i].parent.toList.isEmpty = false) (HK : Hid (idxI (l.take i) l[i].parent = kk)) (hkd : (l[kk]'(by omega)).kind = l[i].kind) :
    Calls Tryz.prog 23 #[.slice A n cap, .int .i64 i] w fun e w' => e = .returned (.nilIface) ∧ Below w.heap.size w w' := by
  have hn : l.length = n := ha.1
  have hi : i < n := by omega
  have Hn := hide hn
  clear hn
  obtain ⟨b, off, rfl, hcs⟩ := ha.at_ (by omega)
  obtain ⟨h0, h1, h2, h3, h4⟩ := hcs i hil
  have hbl : b < w.heap.size := World.block_lt_of_cell? _ _ h0
  have hble : b ≤ w.heap.size := by omega
  have hq := (hcs kk (by omega)).2.2.1
  have hqi : (kk : Int) < (n : Int) := by omega
  have kd1 : ((l[kk]'(by omega)).kind == l[i].kind) = true := by simp [hkd]
  have kd2 : ((l[kk]'(by omega)).kind != l[i].kind) = false := by simp [hkd]
  clear hkd
  clear hcs
  go_enter Tryz.func23, Tryz.ntmps23
  go_wp2_with (first | (go_at_call 46; refine (digits_any _ _ _ hs1).mono ?_; rintro e w1 ⟨rfl, hb1⟩; have hS1 : w1.cell? ⟨w.heap.size, 1, none⟩ = some (.string l[i].name) := below_cell hb1 (by simp) (by simp); have hc1 := (bcell hb1).1; have hz1 : w.heap.size < w1.heap.size := (by have := hb1.size; simp at this; omega); have hbz1 : b < w1.heap.size := (by omega)) | (go_at_call 48; refine (upper_any _).mono ?_; rintro e w2 ⟨rfl, hb2⟩; have hc2 := (bcell hb2).1; have hz2 : w.heap.size < w2.heap.size := (by have := hb2.size; omega); have hbz2 : b < w2.heap.size := (by omega)) | (go_at_call 47; refine (trim_yes l[i].name _ _ hs2 (by decide) (by decide) H.out).mono ?_; rintro e w3 ⟨rfl, hb3⟩; have hc3 := (bcell hb3).1; have hz3 : w.heap.size < w3.heap.size := (by have := hb3.size; omega); have hbz3 : b < w3.heap.size := (by omega)))
  go_region_held3 (fun w' => w'.cell? ⟨w.heap.size, 1, none⟩ = some (.string l[i].name)) (first | exact hS1 | exact hS2 | exact hS3)
    (first | (go_at_call 48; refine (upper_any _).mono ?_; rintro e w2 ⟨rfl, hb2⟩; have hS2 : w2.cell? ⟨w.heap.size, 1, none⟩ = some (.string l[i].name) := below_cell hb2 (by simp; omega) hS1; have hz2 : w.heap.size < w2.heap.size := (by have := hb2.size; simp at this; omega)) | (go_at_call 47; refine (trim_yes l[i].name nameSet _ hs2 (by decide) (by decide) H.out).mono ?_; rintro e w3 ⟨rfl, hb3⟩; have hS3 : w3.cell? ⟨w.heap.size, 1, none⟩ = some (.string l[i].name) := below_cell hb3 (by omega) hS2))
  have hB := bthen (bthen hb1.drew (Nat.le_refl _) hb2) (Nat.le_refl _) hb3
  have hcB := (bcell hB).1
  have hzB : w.heap.size < w3.heap.size := by have := hB.size; simp at this; omega
  have hbB : b < w3.heap.size := by omega
  go_wp2_with fail
  go_quiet (fail)
  go_wp2_with fail
  have hBw : Below w.heap.size w w3 := bthen (bthen (bof_alloc hb1).drew (Nat.le_refl _) hb2) (Nat.le_refl _) hb3
  have hP3 : w3.cell? ⟨w.heap.size, 3, none⟩ = some (.string l[i].parent) := below_cell hB (by simp) (by simp)
  have j0 : (0 : Int) ≤ (i : Int) := by omega
  have j1 : (i : Int) ≤ (cap : Int) := by omega
  go_region_held3 (fun w' => w'.cell? ⟨w.heap.size, 3, none⟩ = some (.string l[i].parent)) (first | exact hP3 | exact hP4)
    (first | (go_at_call 49; refine (index_at (l.take i) _ kk _ _ _ _ (by omega) (Rd.take (ha.below (by first | exact hBw | exact hBw.drew | exact bdrewN hBw _ | exact (bdrewN hBw _).drew)) (by omega)) HK.out).mono ?_; rintro e w4 ⟨rfl, hb4⟩; have hP4 : w4.cell? ⟨w.heap.size, 3, none⟩ = some (.string l[i].parent) := below_cell hb4 (by simp; omega) hP3))
  have hB4 := bthen (bdrewN hB _) (Nat.le_refl _) hb4
  have hc4 := (bcell hB4).1
  have hz4 : w.heap.size < w4.heap.size := by have := hB4.size; simp at this; omega
  have hb4l : b < w4.heap.size := by omega
  clear hcB
  go_wp2_with fail
  have hq0 : 0 ≤ (kk : Int) := by omega
  go_quiet (fail)
  go_wp2_with fail
  go_ret
  exact ⟨rfl, bdrewN (bof_alloc hB4) _⟩

end Go.Proofs.YtggmbjdonlbfkaaGreatDoorBesafter
