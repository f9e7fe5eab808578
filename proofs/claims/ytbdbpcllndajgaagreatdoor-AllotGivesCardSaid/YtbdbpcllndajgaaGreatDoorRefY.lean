/- package dayref1: Leaf and In; daysame.Texts: what each returns. -/
import Derived.Test.YtbdbpcllndajgaaGreatDoorChartP
import Derived.Deep.QuietTactic
import Derived.BigQuiet
import Derived.IntWalk
import Derived.Deep.RegionHeld3
import Derived.Test.YtbdbpcllndajgaaGreatDoorChartX
namespace Go.Proofs.YtbdbpcllndajgaaGreatDoor
open Go Go.RowKit
set_option linter.unusedVariables false

theorem refLeaf_any (l : List Acc) (c : ByteArray) (A : Option Addr) (n cap : Nat) (w : World) (hl : n ≤ 9223372036854775807) (ha : Accs w A n l) :
    Calls Tryz.prog 14 #[.slice A n cap, .string c] w fun e w' => e = .returned (.int .i64 (leafE l c)) ∧ w = w' := by
  have Hn := hide ha.1
  by_cases hi : idxI l c < 0
  · have HE := hide (leafE_6 hi)
    go_enter Tryz.func14, Tryz.ntmps14
    go_wp2_with (go_at_call 35; refine (refAt_any l c _ _ _ _ hl ha).mono ?_; rintro e w1 ⟨rfl, rfl⟩)
    go_ret
    exact ⟨ret_int HE.out.symm, rfl⟩
  · have hi0 : 0 ≤ idxI l c := by omega
    clear hi
    go_enter Tryz.func14, Tryz.ntmps14
    go_wp2_with (go_at_call 35; refine (refAt_any l c _ _ _ _ hl ha).mono ?_; rintro e w1 ⟨rfl, rfl⟩)
    go_loop [6] (fun i => ∃ k : Nat, k ≤ n ∧ i = .int .i64 k ∧ NoneParTo l c k) (fun i => n - (intOf i).toNat)
    case atStart => exact ⟨0, by omega, rfl, NoneParTo.zero _ _⟩
    case round =>
      obtain ⟨k, hk, rfl, hno⟩ := hrel
      by_cases hlt : k < n
      · obtain ⟨b, off, rfl, hcs⟩ := ha.at_ (by omega)
        have hkl : k < l.length := by have := Hn.out; omega
        have hc := (hcs k hkl).2.2.2.1
        clear hcs
        cases hq : l[k].parent.toList == c.toList with
        | true =>
          have HE := hide (leafE_12 hi0 (by rw [hno.hit hkl hq]; omega))
          go_wp2_with fail
          go_ret
          exact ⟨ret_int HE.out.symm, rfl⟩
        | false =>
          have HN := hide (hno.succ hkl hq)
          go_wp2_with fail
          go_round
          case rel => exact ⟨k + 1, by omega, by go_num, HN.out⟩
          case measure => simp [intOf]; omega
      · go_wp2_with fail
        go_ret
        exact ⟨ret_int (leafE_0 hi0 (by rw [hno.miss (by have := Hn.out; omega)]; omega)).symm, rfl⟩

theorem idx_code {l : List Acc} (h : chartE l = 0) {p : Nat} (hp : p < l.length) {c : ByteArray} (e : l[p].code.toList = c.toList) : idxO l c = some p := by
  rw [← ch_idx h p hp]
  unfold idxO
  rw [e]

theorem refAt_in (l : List Acc) (c : ByteArray) (k : Nat) (A : Option Addr) (n cap : Nat) (w : World) (hl : n ≤ 9223372036854775807) (ha : Accs w A n l) (hk : idxO l c = some k) :
    Calls Tryz.prog 35 #[.slice A n cap, .string c] w fun e w' => e = .returned (.int .i64 k) ∧ w = w' := by
  have := refAt_any l c A n cap w hl ha
  rw [show idxI l c = k from by simp [idxI, hk]] at this
  exact this

end Go.Proofs.YtbdbpcllndajgaaGreatDoor

namespace Go.Proofs.YtbdbpcllndajgaaGreatDoor
open Go Go.RowKit
set_option linter.unusedVariables false

theorem all_bytes {p : UInt8 → Bool} (h : ∀ n, n < 256 → p (UInt8.ofNat n) = true) (b : UInt8) : p b = true := by
  have := h b.toNat (UInt8.toNat_lt b)
  rwa [UInt8.ofNat_toNat] at this
theorem decs_byte (b : UInt8) : decs.data.toList.contains b = decide (48 ≤ b.toNat ∧ b.toNat ≤ 57) := by
  have := all_bytes (p := fun b => decs.data.toList.contains b == decide (48 ≤ b.toNat ∧ b.toNat ≤ 57)) (by decide +kernel) b
  simpa using this
theorem name_byte (b : UInt8) : nameSet.data.toList.contains b = decide (b.toNat = 45 ∨ (48 ≤ b.toNat ∧ b.toNat ≤ 57) ∨ (65 ≤ b.toNat ∧ b.toNat ≤ 90) ∨ (97 ≤ b.toNat ∧ b.toNat ≤ 122)) := by
  have := all_bytes (p := fun b => nameSet.data.toList.contains b == decide (b.toNat = 45 ∨ (48 ≤ b.toNat ∧ b.toNat ≤ 57) ∨ (65 ≤ b.toNat ∧ b.toNat ≤ 90) ∨ (97 ≤ b.toNat ∧ b.toNat ≤ 122))) (by decide +kernel) b
  simpa using this

/-- each byte ahead of k is one of cs -/
def InTo (s cs : ByteArray) (k : Nat) : Prop := ∀ (j : Nat) (h : j < s.size), j < k → cs.data.toList.contains s[j] = true
theorem InTo.zero (s cs : ByteArray) : InTo s cs 0 := fun _ _ h => absurd h (by omega)
theorem InTo.succ {s cs : ByteArray} {k : Nat} (h : InTo s cs k) (hk : k < s.size) (hc : cs.data.toList.contains s[k] = true) : InTo s cs (k + 1) := by
  intro j hj hjk
  by_cases e : j = k
  · subst e; exact hc
  · exact h j hj (by omega)
theorem InTo.all {s cs : ByteArray} {k : Nat} (h : InTo s cs k) (hk : s.size ≤ k) : allIn s cs = true := by
  unfold allIn
  rw [List.all_eq_true]
  intro x hx
  obtain ⟨j, hj, rfl⟩ := List.getElem_of_mem hx
  have hj' : j < s.size := by simpa using hj
  exact h j hj' (by omega)
theorem InTo.not {s cs : ByteArray} {k : Nat} (hk : k < s.size) (hc : cs.data.toList.contains s[k] = false) : allIn s cs = false := by
  unfold allIn
  rw [List.all_eq_false]
  refine ⟨s[k], ?_, by rw [hc]; decide⟩
  exact List.getElem_mem (l := s.data.toList) (n := k) (by simpa using hk)

theorem refDigits_any (s : ByteArray) (most : Int) (w : World) (hs : s.size ≤ 9223372036854775807) :
    Calls Tryz.prog 75 #[.string s, .int .i64 most] w fun e w' => e = .returned (.bool (digitsB s most)) ∧ w = w' := by
  by_cases h0 : s.toList.isEmpty = true
  · have hf : digitsB s most = false := by simp [digitsB, h0]
    rw [hf]; clear hf
    go_enter Tryz.func75, Tryz.ntmps75
    go_wp2_with fail
    go_ret
    exact ⟨rfl, rfl⟩
  · have h0' : s.toList.isEmpty = false := by simpa using h0
    clear h0
    by_cases h1 : (s.size : Int) ≤ most
    · have hf : digitsB s most = allIn s decs := by simp [digitsB, h0', h1]
      rw [hf]; clear hf
      go_enter Tryz.func75, Tryz.ntmps75
      go_wp2_with fail
      go_loop [5] (fun i => ∃ k : Nat, k ≤ s.size ∧ i = .int .i64 k ∧ InTo s decs k) (fun i => s.size - (intOf i).toNat)
      case atStart => exact ⟨0, by omega, rfl, InTo.zero _ _⟩
      case round =>
        obtain ⟨k, hk, rfl, hin⟩ := hrel
        by_cases hlt : k < s.size
        · have hb := decs_byte s[k]
          have HB := hide hb
          clear hb
          go_wp2_with fail
          · go_ret
            exact ⟨ret_bool (InTo.not hlt (by rw [HB.out]; simp; omega)).symm, rfl⟩
          · go_round
            case rel => exact ⟨k + 1, by omega, by go_num, hin.succ hlt (by rw [HB.out]; simp; omega)⟩
            case measure => simp [intOf]; omega
          · go_ret
            exact ⟨ret_bool (InTo.not hlt (by rw [HB.out]; simp; omega)).symm, rfl⟩
        · go_wp2_with fail
          go_ret
          exact ⟨ret_bool (hin.all (by omega)).symm, rfl⟩
    · have h1' : most < (s.size : Int) := by omega
      have hf : digitsB s most = false := by simp [digitsB, h1]
      rw [hf]; clear hf h1
      go_enter Tryz.func75, Tryz.ntmps75
      go_wp2_with fail
      go_ret
      exact ⟨rfl, rfl⟩
end Go.Proofs.YtbdbpcllndajgaaGreatDoor

namespace Go.Proofs.YtbdbpcllndajgaaGreatDoor
open Go Go.RowKit
set_option linter.unusedVariables false

theorem rac_1 (l : List Acc) (A : Option Addr) (n cap i : Nat) (w : World) (hl : n ≤ 9223372036854775807) (hcap : n ≤ cap) (ha : Accs w A n l) (hil : i < l.length)
    (hs1 : l[i].code.size ≤ 9223372036854775807) (hs2 : l[i].name.size ≤ 9223372036854775807) (hd : digitsB l[i].code 6 = false) :
    Calls Tryz.prog 34 #[.slice A n cap, .int .i64 i] w fun e w' => e = .returned (.int .i64 2) ∧ Below w.heap.size w w' := by
  have hn : l.length = n := ha.1
  have hi : i < n := by omega
  have Hn := hide hn
  clear hn
  obtain ⟨b, off, rfl, hcs⟩ := ha.at_ (by omega)
  obtain ⟨h0, h1, h2, h3, h4⟩ := hcs i hil
  have hbl : b < w.heap.size := World.block_lt_of_cell? _ _ h0
  clear hcs
  go_enter Tryz.func34, Tryz.ntmps34
  go_wp2_with (go_at_call 75; refine (refDigits_any _ _ _ hs1).mono ?_; rintro e w1 ⟨rfl, rfl⟩)
  go_ret
  exact ⟨rfl, (Below.refl _ _).alloc (Nat.le_refl _) _⟩

theorem rac_2 (l : List Acc) (A : Option Addr) (n cap i : Nat) (w : World) (hl : n ≤ 9223372036854775807) (hcap : n ≤ cap) (ha : Accs w A n l) (hil : i < l.length)
    (hs1 : l[i].code.size ≤ 9223372036854775807) (hs2 : l[i].name.size ≤ 9223372036854775807) (hd : digitsB l[i].code 6 = true) (hn1 : l[i].name.toList.isEmpty = true) :
    Calls Tryz.prog 34 #[.slice A n cap, .int .i64 i] w fun e w' => e = .returned (.int .i64 2) ∧ Below w.heap.size w w' := by
  have hn : l.length = n := ha.1
  have hi : i < n := by omega
  have Hn := hide hn
  clear hn
  obtain ⟨b, off, rfl, hcs⟩ := ha.at_ (by omega)
  obtain ⟨h0, h1, h2, h3, h4⟩ := hcs i hil
  have hbl : b < w.heap.size := World.block_lt_of_cell? _ _ h0
  clear hcs
  go_enter Tryz.func34, Tryz.ntmps34
  go_wp2_with (go_at_call 75; refine (refDigits_any _ _ _ hs1).mono ?_; rintro e w1 ⟨rfl, rfl⟩)
  go_ret
  exact ⟨rfl, (Below.refl _ _).alloc (Nat.le_refl _) _⟩

theorem rac_3 (l : List Acc) (A : Option Addr) (n cap i : Nat) (w : World) (hl : n ≤ 9223372036854775807) (hcap : n ≤ cap) (ha : Accs w A n l) (hil : i < l.length)
    (hs1 : l[i].code.size ≤ 9223372036854775807) (hs2 : l[i].name.size ≤ 9223372036854775807) (hd : digitsB l[i].code 6 = true) (hn1 : l[i].name.toList.isEmpty = false) (hn2 : 24 < (l[i].name.size : Int)) :
    Calls Tryz.prog 34 #[.slice A n cap, .int .i64 i] w fun e w' => e = .returned (.int .i64 2) ∧ Below w.heap.size w w' := by
  have hn : l.length = n := ha.1
  have hi : i < n := by omega
  have Hn := hide hn
  clear hn
  obtain ⟨b, off, rfl, hcs⟩ := ha.at_ (by omega)
  obtain ⟨h0, h1, h2, h3, h4⟩ := hcs i hil
  have hbl : b < w.heap.size := World.block_lt_of_cell? _ _ h0
  clear hcs
  go_enter Tryz.func34, Tryz.ntmps34
  go_wp2_with (go_at_call 75; refine (refDigits_any _ _ _ hs1).mono ?_; rintro e w1 ⟨rfl, rfl⟩)
  go_ret
  exact ⟨rfl, (Below.refl _ _).alloc (Nat.le_refl _) _⟩

set_option maxHeartbeats 4000000 in
theorem rac_4 (l : List Acc) (A : Option Addr) (n cap i : Nat) (w : World) (hl : n ≤ 9223372036854775807) (hcap : n ≤ cap) (ha : Accs w A n l) (hil : i < l.length)
    (hs1 : l[i].code.size ≤ 9223372036854775807) (hs2 : l[i].name.size ≤ 9223372036854775807) (hd : digitsB l[i].code 6 = true) (hn1 : l[i].name.toList.isEmpty = false) (hn2 : (l[i].name.size : Int) ≤ 24) (H : Hid (allIn l[i].name nameSet = false)) :
    Calls Tryz.prog 34 #[.slice A n cap, .int .i64 i] w fun e w' => e = .returned (.int .i64 2) ∧ Below w.heap.size w w' := by
  have hn : l.length = n := ha.1
  have hi : i < n := by omega
  have Hn := hide hn
  clear hn
  obtain ⟨b, off, rfl, hcs⟩ := ha.at_ (by omega)
  obtain ⟨h0, h1, h2, h3, h4⟩ := hcs i hil
  have hbl : b < w.heap.size := World.block_lt_of_cell? _ _ h0
  clear hcs
  go_enter Tryz.func34, Tryz.ntmps34
  go_wp2_with (go_at_call 75; refine (refDigits_any _ _ _ hs1).mono ?_; rintro e w1 ⟨rfl, rfl⟩)
  go_loop [7] (fun i' => ∃ k : Nat, k ≤ l[i].name.size ∧ i' = .int .i64 k ∧ InTo l[i].name nameSet k) (fun i' => l[i].name.size - (intOf i').toNat)
  case atStart => exact ⟨0, by omega, rfl, InTo.zero _ _⟩
  case round =>
    obtain ⟨k, hk, rfl, hin⟩ := hrel
    by_cases hlt : k < l[i].name.size
    · have HB := hide (name_byte (l[i].name[k]))
      by_cases g : (l[i].name[k].toNat : Int) ≤ 44
      · have a2 : (l[i].name[k].toNat : Int) ≤ 44 := by omega
        have a3 : ((l[i].name[k].toNat : Int) == 45) = false := by rw [beq_eq_false_iff_ne]; omega
        have a4 : ((l[i].name[k].toNat : Int) != 45) = true := by rw [bne, a3]; rfl
        clear g
        go_wp2_with fail
        go_ret
        exact ⟨rfl, (Below.refl _ _).alloc (Nat.le_refl _) _⟩
      · have g44 : 45 ≤ (l[i].name[k].toNat : Int) := by omega
        clear g
        by_cases g : (l[i].name[k].toNat : Int) ≤ 45
        · have a1 : 45 ≤ (l[i].name[k].toNat : Int) := by omega
          have a2 : (l[i].name[k].toNat : Int) ≤ 45 := by omega
          have a3 : ((l[i].name[k].toNat : Int) == 45) = true := by simp; omega
          have a4 : ((l[i].name[k].toNat : Int) != 45) = false := by rw [bne, a3]; rfl
          clear g
          go_wp2_with fail
          go_round
          case rel => exact ⟨k + 1, by omega, by go_num, hin.succ hlt (by rw [HB.out]; simp; omega)⟩
          case measure => simp [intOf]; omega
        · have g45 : 46 ≤ (l[i].name[k].toNat : Int) := by omega
          clear g
          by_cases g : (l[i].name[k].toNat : Int) ≤ 47
          · have a1 : 46 ≤ (l[i].name[k].toNat : Int) := by omega
            have a2 : (l[i].name[k].toNat : Int) ≤ 47 := by omega
            have a3 : ((l[i].name[k].toNat : Int) == 45) = false := by rw [beq_eq_false_iff_ne]; omega
            have a4 : ((l[i].name[k].toNat : Int) != 45) = true := by rw [bne, a3]; rfl
            clear g
            go_wp2_with fail
            go_ret
            exact ⟨rfl, (Below.refl _ _).alloc (Nat.le_refl _) _⟩
          · have g47 : 48 ≤ (l[i].name[k].toNat : Int) := by omega
            clear g
            by_cases g : (l[i].name[k].toNat : Int) ≤ 57
            · have a1 : 48 ≤ (l[i].name[k].toNat : Int) := by omega
              have a2 : (l[i].name[k].toNat : Int) ≤ 57 := by omega
              have a3 : ((l[i].name[k].toNat : Int) == 45) = false := by rw [beq_eq_false_iff_ne]; omega
              have a4 : ((l[i].name[k].toNat : Int) != 45) = true := by rw [bne, a3]; rfl
              clear g
              go_wp2_with fail
              go_round
              case rel => exact ⟨k + 1, by omega, by go_num, hin.succ hlt (by rw [HB.out]; simp; omega)⟩
              case measure => simp [intOf]; omega
            · have g57 : 58 ≤ (l[i].name[k].toNat : Int) := by omega
              clear g
              by_cases g : (l[i].name[k].toNat : Int) ≤ 64
              · have a1 : 58 ≤ (l[i].name[k].toNat : Int) := by omega
                have a2 : (l[i].name[k].toNat : Int) ≤ 64 := by omega
                have a3 : ((l[i].name[k].toNat : Int) == 45) = false := by rw [beq_eq_false_iff_ne]; omega
                have a4 : ((l[i].name[k].toNat : Int) != 45) = true := by rw [bne, a3]; rfl
                clear g
                go_wp2_with fail
                go_ret
                exact ⟨rfl, (Below.refl _ _).alloc (Nat.le_refl _) _⟩
              · have g64 : 65 ≤ (l[i].name[k].toNat : Int) := by omega
                clear g
                by_cases g : (l[i].name[k].toNat : Int) ≤ 90
                · have a1 : 65 ≤ (l[i].name[k].toNat : Int) := by omega
                  have a2 : (l[i].name[k].toNat : Int) ≤ 90 := by omega
                  have a3 : ((l[i].name[k].toNat : Int) == 45) = false := by rw [beq_eq_false_iff_ne]; omega
                  have a4 : ((l[i].name[k].toNat : Int) != 45) = true := by rw [bne, a3]; rfl
                  clear g
                  go_wp2_with fail
                  go_round
                  case rel => exact ⟨k + 1, by omega, by go_num, hin.succ hlt (by rw [HB.out]; simp; omega)⟩
                  case measure => simp [intOf]; omega
                · have g90 : 91 ≤ (l[i].name[k].toNat : Int) := by omega
                  clear g
                  by_cases g : (l[i].name[k].toNat : Int) ≤ 96
                  · have a1 : 91 ≤ (l[i].name[k].toNat : Int) := by omega
                    have a2 : (l[i].name[k].toNat : Int) ≤ 96 := by omega
                    have a3 : ((l[i].name[k].toNat : Int) == 45) = false := by rw [beq_eq_false_iff_ne]; omega
                    have a4 : ((l[i].name[k].toNat : Int) != 45) = true := by rw [bne, a3]; rfl
                    clear g
                    go_wp2_with fail
                    go_ret
                    exact ⟨rfl, (Below.refl _ _).alloc (Nat.le_refl _) _⟩
                  · have g96 : 97 ≤ (l[i].name[k].toNat : Int) := by omega
                    clear g
                    by_cases g : (l[i].name[k].toNat : Int) ≤ 122
                    · have a1 : 97 ≤ (l[i].name[k].toNat : Int) := by omega
                      have a2 : (l[i].name[k].toNat : Int) ≤ 122 := by omega
                      have a3 : ((l[i].name[k].toNat : Int) == 45) = false := by rw [beq_eq_false_iff_ne]; omega
                      have a4 : ((l[i].name[k].toNat : Int) != 45) = true := by rw [bne, a3]; rfl
                      clear g
                      go_wp2_with fail
                      go_round
                      case rel => exact ⟨k + 1, by omega, by go_num, hin.succ hlt (by rw [HB.out]; simp; omega)⟩
                      case measure => simp [intOf]; omega
                    · have g122 : 123 ≤ (l[i].name[k].toNat : Int) := by omega
                      clear g
                      have a1 : 123 ≤ (l[i].name[k].toNat : Int) := by omega
                      have a3 : ((l[i].name[k].toNat : Int) == 45) = false := by rw [beq_eq_false_iff_ne]; omega
                      have a4 : ((l[i].name[k].toNat : Int) != 45) = true := by rw [bne, a3]; rfl
                      go_wp2_with fail
                      go_ret
                      exact ⟨rfl, (Below.refl _ _).alloc (Nat.le_refl _) _⟩
    · exfalso
      have := hin.all (by omega)
      rw [H.out] at this; cases this

/-- what is wrong behind code and name -/
def accR (f : List Acc) (a : Acc) : Int :=
  if a.kind < 1 then 1 else
  if 5 < a.kind then 1 else
  if ordOk f a = false then 5 else
  if a.parent.toList.isEmpty = true then 0 else
  match idxO f a.parent with
  | none => 6
  | some k => if (f[k]?.map (·.kind)) = some a.kind then 0 else 12
theorem accF_R {f : List Acc} {a : Acc} (h1 : digitsB a.code 6 = true) (h2 : nameB a.name = true) : accF f a = accR f a := by
  unfold accF accR
  rw [if_neg (by simp [h1]), if_neg (by simp [h2])]
  rfl
theorem accR_k1 {f : List Acc} {a : Acc} (h : a.kind < 1) : accR f a = 1 := by unfold accR; rw [if_pos h]
theorem accR_k5 {f : List Acc} {a : Acc} (h0 : 1 ≤ a.kind) (h : 5 < a.kind) : accR f a = 1 := by unfold accR; rw [if_neg (by omega), if_pos h]
theorem accR_o {f : List Acc} {a : Acc} (h0 : 1 ≤ a.kind) (h1 : a.kind ≤ 5) (h : ordOk f a = false) : accR f a = 5 := by unfold accR; rw [if_neg (by omega), if_neg (by omega), if_pos h]
theorem accR_p {f : List Acc} {a : Acc} (h0 : 1 ≤ a.kind) (h1 : a.kind ≤ 5) (h : ordOk f a = true) (hp : a.parent.toList.isEmpty = true) : accR f a = 0 := by
  unfold accR; rw [if_neg (by omega), if_neg (by omega), if_neg (by simp [h]), if_pos hp]
theorem accR_n {f : List Acc} {a : Acc} (h0 : 1 ≤ a.kind) (h1 : a.kind ≤ 5) (h : ordOk f a = true) (hp : a.parent.toList.isEmpty = false) (hx : idxO f a.parent = none) : accR f a = 6 := by
  unfold accR; rw [if_neg (by omega), if_neg (by omega), if_neg (by simp [h]), if_neg (by simp [hp]), hx]
theorem accR_s {f : List Acc} {a : Acc} {k : Nat} (h0 : 1 ≤ a.kind) (h1 : a.kind ≤ 5) (h : ordOk f a = true) (hp : a.parent.toList.isEmpty = false) (hx : idxO f a.parent = some k) : accR f a = if (f[k]?.map (·.kind)) = some a.kind then 0 else 12 := by
  unfold accR; rw [if_neg (by omega), if_neg (by omega), if_neg (by simp [h]), if_neg (by simp [hp]), hx]
theorem ord_p {l : List Acc} {i : Nat} (h0 : 0 < i) (h : i < l.length) : ordOk (l.take i) l[i] = Op.bytesLess (l[i-1]'(by omega)).code.toList l[i].code.toList := by unfold ordOk; rw [take_last h0 h]
theorem ord_z {l : List Acc} {i : Nat} (h0 : i = 0) (h : i < l.length) : ordOk (l.take i) l[i] = true := by unfold ordOk; rw [show (l.take i).getLast? = none from by rw [h0]; rfl]
theorem refAt_k (l : List Acc) (c : ByteArray) (k : Int) (A : Option Addr) (n cap : Nat) (w : World) (hl : n ≤ 9223372036854775807) (ha : Accs w A n l) (hk : idxI l c = k) :
    Calls Tryz.prog 35 #[.slice A n cap, .string c] w fun e w' => e = .returned (.int .i64 k) ∧ w = w' := by
  subst hk; exact refAt_any l c A n cap w hl ha

set_option maxHeartbeats 40000000 in
set_option maxRecDepth 100000 in
theorem rac_T (l : List Acc) (A : Option Addr) (n cap i : Nat) (w : World) (hl : n ≤ 9223372036854775807) (hcap : n ≤ cap) (ha : Accs w A n l) (hil : i < l.length)
    (hs1 : l[i].code.size ≤ 9223372036854775807) (hs2 : l[i].name.size ≤ 9223372036854775807) (hd : digitsB l[i].code 6 = true) (hn1 : l[i].name.toList.isEmpty = false) (hn2 : (l[i].name.size : Int) ≤ 24) (H : Hid (allIn l[i].name nameSet = true)) :
    Calls Tryz.prog 34 #[.slice A n cap, .int .i64 i] w fun e w' => e = .returned (.int .i64 (accR (l.take i) l[i])) ∧ Below w.heap.size w w' := by
  have hn : l.length = n := ha.1
  have hi : i < n := by omega
  have Hn := hide hn
  clear hn
  obtain ⟨b, off, rfl, hcs⟩ := ha.at_ (by omega)
  obtain ⟨h0, h1, h2, h3, h4⟩ := hcs i hil
  have hbl : b < w.heap.size := World.block_lt_of_cell? _ _ h0
  go_enter Tryz.func34, Tryz.ntmps34
  go_wp2_with (go_at_call 75; refine (refDigits_any _ _ _ hs1).mono ?_; rintro e w1 ⟨rfl, rfl⟩)
  go_loop [7] (fun i' => ∃ k : Nat, k ≤ l[i].name.size ∧ i' = .int .i64 k ∧ InTo l[i].name nameSet k) (fun i' => l[i].name.size - (intOf i').toNat)
  case atStart => exact ⟨0, by omega, rfl, InTo.zero _ _⟩
  case round =>
    obtain ⟨k, hk, rfl, hin⟩ := hrel
    by_cases hlt : k < l[i].name.size
    · have HB := hide (name_byte (l[i].name[k]))
      by_cases g : (l[i].name[k].toNat : Int) ≤ 44
      · have a2 : (l[i].name[k].toNat : Int) ≤ 44 := by omega
        have a3 : ((l[i].name[k].toNat : Int) == 45) = false := by rw [beq_eq_false_iff_ne]; omega
        have a4 : ((l[i].name[k].toNat : Int) != 45) = true := by rw [bne, a3]; rfl
        clear g
        exfalso
        have e1 := InTo.not (cs := nameSet) hlt (by rw [HB.out]; simp; omega)
        rw [H.out] at e1; cases e1
      · have g44 : 45 ≤ (l[i].name[k].toNat : Int) := by omega
        clear g
        by_cases g : (l[i].name[k].toNat : Int) ≤ 45
        · have a1 : 45 ≤ (l[i].name[k].toNat : Int) := by omega
          have a2 : (l[i].name[k].toNat : Int) ≤ 45 := by omega
          have a3 : ((l[i].name[k].toNat : Int) == 45) = true := by simp; omega
          have a4 : ((l[i].name[k].toNat : Int) != 45) = false := by rw [bne, a3]; rfl
          clear g
          go_wp2_with fail
          go_round
          case rel => exact ⟨k + 1, by omega, by go_num, hin.succ hlt (by rw [HB.out]; simp; omega)⟩
          case measure => simp [intOf]; omega
        · have g45 : 46 ≤ (l[i].name[k].toNat : Int) := by omega
          clear g
          by_cases g : (l[i].name[k].toNat : Int) ≤ 47
          · have a1 : 46 ≤ (l[i].name[k].toNat : Int) := by omega
            have a2 : (l[i].name[k].toNat : Int) ≤ 47 := by omega
            have a3 : ((l[i].name[k].toNat : Int) == 45) = false := by rw [beq_eq_false_iff_ne]; omega
            have a4 : ((l[i].name[k].toNat : Int) != 45) = true := by rw [bne, a3]; rfl
            clear g
            exfalso
            have e1 := InTo.not (cs := nameSet) hlt (by rw [HB.out]; simp; omega)
            rw [H.out] at e1; cases e1
          · have g47 : 48 ≤ (l[i].name[k].toNat : Int) := by omega
            clear g
            by_cases g : (l[i].name[k].toNat : Int) ≤ 57
            · have a1 : 48 ≤ (l[i].name[k].toNat : Int) := by omega
              have a2 : (l[i].name[k].toNat : Int) ≤ 57 := by omega
              have a3 : ((l[i].name[k].toNat : Int) == 45) = false := by rw [beq_eq_false_iff_ne]; omega
              have a4 : ((l[i].name[k].toNat : Int) != 45) = true := by rw [bne, a3]; rfl
              clear g
              go_wp2_with fail
              go_round
              case rel => exact ⟨k + 1, by omega, by go_num, hin.succ hlt (by rw [HB.out]; simp; omega)⟩
              case measure => simp [intOf]; omega
            · have g57 : 58 ≤ (l[i].name[k].toNat : Int) := by omega
              clear g
              by_cases g : (l[i].name[k].toNat : Int) ≤ 64
              · have a1 : 58 ≤ (l[i].name[k].toNat : Int) := by omega
                have a2 : (l[i].name[k].toNat : Int) ≤ 64 := by omega
                have a3 : ((l[i].name[k].toNat : Int) == 45) = false := by rw [beq_eq_false_iff_ne]; omega
                have a4 : ((l[i].name[k].toNat : Int) != 45) = true := by rw [bne, a3]; rfl
                clear g
                exfalso
                have e1 := InTo.not (cs := nameSet) hlt (by rw [HB.out]; simp; omega)
                rw [H.out] at e1; cases e1
              · have g64 : 65 ≤ (l[i].name[k].toNat : Int) := by omega
                clear g
                by_cases g : (l[i].name[k].toNat : Int) ≤ 90
                · have a1 : 65 ≤ (l[i].name[k].toNat : Int) := by omega
                  have a2 : (l[i].name[k].toNat : Int) ≤ 90 := by omega
                  have a3 : ((l[i].name[k].toNat : Int) == 45) = false := by rw [beq_eq_false_iff_ne]; omega
                  have a4 : ((l[i].name[k].toNat : Int) != 45) = true := by rw [bne, a3]; rfl
                  clear g
                  go_wp2_with fail
                  go_round
                  case rel => exact ⟨k + 1, by omega, by go_num, hin.succ hlt (by rw [HB.out]; simp; omega)⟩
                  case measure => simp [intOf]; omega
                · have g90 : 91 ≤ (l[i].name[k].toNat : Int) := by omega
                  clear g
                  by_cases g : (l[i].name[k].toNat : Int) ≤ 96
                  · have a1 : 91 ≤ (l[i].name[k].toNat : Int) := by omega
                    have a2 : (l[i].name[k].toNat : Int) ≤ 96 := by omega
                    have a3 : ((l[i].name[k].toNat : Int) == 45) = false := by rw [beq_eq_false_iff_ne]; omega
                    have a4 : ((l[i].name[k].toNat : Int) != 45) = true := by rw [bne, a3]; rfl
                    clear g
                    exfalso
                    have e1 := InTo.not (cs := nameSet) hlt (by rw [HB.out]; simp; omega)
                    rw [H.out] at e1; cases e1
                  · have g96 : 97 ≤ (l[i].name[k].toNat : Int) := by omega
                    clear g
                    by_cases g : (l[i].name[k].toNat : Int) ≤ 122
                    · have a1 : 97 ≤ (l[i].name[k].toNat : Int) := by omega
                      have a2 : (l[i].name[k].toNat : Int) ≤ 122 := by omega
                      have a3 : ((l[i].name[k].toNat : Int) == 45) = false := by rw [beq_eq_false_iff_ne]; omega
                      have a4 : ((l[i].name[k].toNat : Int) != 45) = true := by rw [bne, a3]; rfl
                      clear g
                      go_wp2_with fail
                      go_round
                      case rel => exact ⟨k + 1, by omega, by go_num, hin.succ hlt (by rw [HB.out]; simp; omega)⟩
                      case measure => simp [intOf]; omega
                    · have g122 : 123 ≤ (l[i].name[k].toNat : Int) := by omega
                      clear g
                      have a1 : 123 ≤ (l[i].name[k].toNat : Int) := by omega
                      have a3 : ((l[i].name[k].toNat : Int) == 45) = false := by rw [beq_eq_false_iff_ne]; omega
                      have a4 : ((l[i].name[k].toNat : Int) != 45) = true := by rw [bne, a3]; rfl
                      exfalso
                      have e1 := InTo.not (cs := nameSet) hlt (by rw [HB.out]; simp; omega)
                      rw [H.out] at e1; cases e1
    · clear hin
      by_cases h5 : l[i].kind < 1
      · have HF := hide (accR_k1 (f := l.take i) h5)
        go_wp2_with fail
        go_ret
        exact ⟨ret_int (HF.out).symm, (Below.refl _ _).alloc (Nat.le_refl _) _⟩
      · by_cases h6 : 5 < l[i].kind
        · have hk1 : 1 ≤ l[i].kind := by omega
          have HF := hide (accR_k5 (f := l.take i) hk1 h6)
          clear h5
          go_wp2_with fail
          go_ret
          exact ⟨ret_int (HF.out).symm, (Below.refl _ _).alloc (Nat.le_refl _) _⟩
        · have hk1 : 1 ≤ l[i].kind := by omega
          have hk2 : l[i].kind ≤ 5 := by omega
          clear h5 h6
          by_cases hi0 : 0 < i
          · have hop := ord_p hi0 hil
            have hp := (hcs (i - 1) (by omega)).1
            cases h7 : Op.bytesLess (l[i-1]'(by omega)).code.toList l[i].code.toList with
            | false =>
              have HF := hide (accR_o hk1 hk2 (hop.trans h7))
              clear hop hcs
              have iw : IntKind.i64.wrap ((i : Int) - 1) = (i : Int) - 1 := IntWalk.i64_in _ (by omega)
              have i0 : 0 ≤ (i : Int) - 1 := by omega
              have i1 : 1 ≤ (i : Int) := by omega
              have it : ((i : Int) - 1).toNat = i - 1 := by omega
              have il : (i : Int) - 1 < (n : Int) := by omega
              go_wp2_with fail
              go_quiet (fail)
              clear iw it
              go_wp2_with fail
              go_ret
              exact ⟨ret_int (HF.out).symm, bdrewN ((Below.refl _ _).alloc (Nat.le_refl _) _) _⟩
            | true =>
              have HO := hide (hop.trans h7)
              clear hop
              cases h8 : l[i].parent.toList.isEmpty with
              | true =>
                have HF := hide (accR_p hk1 hk2 (HO.out) h8)
                clear H
                have iw : IntKind.i64.wrap ((i : Int) - 1) = (i : Int) - 1 := IntWalk.i64_in _ (by omega)
                have i0 : 0 ≤ (i : Int) - 1 := by omega
                have i1 : 1 ≤ (i : Int) := by omega
                have it : ((i : Int) - 1).toNat = i - 1 := by omega
                have il : (i : Int) - 1 < (n : Int) := by omega
                go_wp2_with fail
                go_quiet (fail)
                clear iw it
                go_wp2_with fail
                go_ret
                exact ⟨ret_int (HF.out).symm, bdrewN ((Below.refl _ _).alloc (Nat.le_refl _) _) _⟩
              | false =>
                cases h9 : idxO (l.take i) l[i].parent with
                | none =>
                  have HF := hide (accR_n hk1 hk2 (HO.out) h8 h9)
                  have HX : Hid (idxI (l.take i) l[i].parent = -1) := by show idxI _ _ = _; simp [idxI, h9]
                  clear h9 H
                  have iw : IntKind.i64.wrap ((i : Int) - 1) = (i : Int) - 1 := IntWalk.i64_in _ (by omega)
                  have i0 : 0 ≤ (i : Int) - 1 := by omega
                  have i1 : 1 ≤ (i : Int) := by omega
                  have it : ((i : Int) - 1).toNat = i - 1 := by omega
                  have il : (i : Int) - 1 < (n : Int) := by omega
                  go_wp2_with fail
                  go_quiet (fail)
                  clear iw it
                  go_wp2_with fail
                  have j0 : (0 : Int) ≤ (i : Int) := by omega
                  have j1 : (i : Int) ≤ (cap : Int) := by omega
                  have hP3 : (w.alloc (.cells #[.string l[i].code, .string l[i].name, .int .i64 l[i].kind, .string l[i].parent, .bool l[i].money] 72)).cell? ⟨w.heap.size, 3, none⟩ = some (.string l[i].parent) := by simp
                  go_region_held3 (fun w' => w'.cell? ⟨w.heap.size, 3, none⟩ = some (.string l[i].parent)) (first | exact hP3)
                    (first | (go_at_call 35; refine (refAt_k (l.take i) _ (-1) _ _ _ _ (by omega) (Rd.take (ha.below (by first | exact (bdrewN ((Below.refl _ _).alloc (Nat.le_refl _) _) _).drew | exact bdrewN ((Below.refl _ _).alloc (Nat.le_refl _) _) _)) (by omega)) HX.out).mono ?_; rintro e w4 ⟨rfl, rfl⟩))
                  go_wp2_with fail
                  go_ret
                  exact ⟨ret_int (HF.out).symm, bdrewN ((Below.refl _ _).alloc (Nat.le_refl _) _) _⟩
                | some kk =>
                  have hk' := idxO_lt h9
                  rw [List.length_take] at hk'
                  have hkk : kk < i := by omega
                  have hq := (hcs kk (by omega)).2.2.1
                  have hqi : (kk : Int) < (n : Int) := by omega
                  have hq0 : 0 ≤ (kk : Int) := by omega
                  have HS := accR_s hk1 hk2 (HO.out) h8 h9
                  have hkd0 : (l.take i)[kk]? = some (l[kk]'(by omega)) := by rw [List.getElem?_take, if_pos hkk, List.getElem?_eq_getElem]
                  rw [hkd0] at HS
                  simp only [Option.map_some, Option.some.injEq] at HS
                  have HX : Hid (idxI (l.take i) l[i].parent = (kk : Int)) := by show idxI _ _ = _; simp [idxI, h9]
                  clear h9 hkd0 H
                  by_cases hkd : (l[kk]'(by omega)).kind = l[i].kind
                  · rw [if_pos hkd] at HS
                    have HF := hide HS
                    have kd1 : ((l[kk]'(by omega)).kind == l[i].kind) = true := by simp [hkd]
                    have kd2 : ((l[kk]'(by omega)).kind != l[i].kind) = false := by simp [hkd]
                    clear hkd HS
                    have iw : IntKind.i64.wrap ((i : Int) - 1) = (i : Int) - 1 := IntWalk.i64_in _ (by omega)
                    have i0 : 0 ≤ (i : Int) - 1 := by omega
                    have i1 : 1 ≤ (i : Int) := by omega
                    have it : ((i : Int) - 1).toNat = i - 1 := by omega
                    have il : (i : Int) - 1 < (n : Int) := by omega
                    go_wp2_with fail
                    go_quiet (fail)
                    clear iw it
                    go_wp2_with fail
                    have j0 : (0 : Int) ≤ (i : Int) := by omega
                    have j1 : (i : Int) ≤ (cap : Int) := by omega
                    have hP3 : (w.alloc (.cells #[.string l[i].code, .string l[i].name, .int .i64 l[i].kind, .string l[i].parent, .bool l[i].money] 72)).cell? ⟨w.heap.size, 3, none⟩ = some (.string l[i].parent) := by simp
                    go_region_held3 (fun w' => w'.cell? ⟨w.heap.size, 3, none⟩ = some (.string l[i].parent)) (first | exact hP3)
                      (first | (go_at_call 35; refine (refAt_k (l.take i) _ kk _ _ _ _ (by omega) (Rd.take (ha.below (by first | exact (bdrewN ((Below.refl _ _).alloc (Nat.le_refl _) _) _).drew | exact bdrewN ((Below.refl _ _).alloc (Nat.le_refl _) _) _)) (by omega)) HX.out).mono ?_; rintro e w4 ⟨rfl, rfl⟩))
                    go_wp2_with fail
                    go_quiet (fail)
                    go_wp2_with fail
                    go_ret
                    exact ⟨ret_int (HF.out).symm, bdrewN (bdrewN ((Below.refl _ _).alloc (Nat.le_refl _) _) _) _⟩
                  · rw [if_neg hkd] at HS
                    have HF := hide HS
                    have kd1 : ((l[kk]'(by omega)).kind == l[i].kind) = false := by simp [hkd]
                    have kd2 : ((l[kk]'(by omega)).kind != l[i].kind) = true := by simp [hkd]
                    clear hkd HS
                    have iw : IntKind.i64.wrap ((i : Int) - 1) = (i : Int) - 1 := IntWalk.i64_in _ (by omega)
                    have i0 : 0 ≤ (i : Int) - 1 := by omega
                    have i1 : 1 ≤ (i : Int) := by omega
                    have it : ((i : Int) - 1).toNat = i - 1 := by omega
                    have il : (i : Int) - 1 < (n : Int) := by omega
                    go_wp2_with fail
                    go_quiet (fail)
                    clear iw it
                    go_wp2_with fail
                    have j0 : (0 : Int) ≤ (i : Int) := by omega
                    have j1 : (i : Int) ≤ (cap : Int) := by omega
                    have hP3 : (w.alloc (.cells #[.string l[i].code, .string l[i].name, .int .i64 l[i].kind, .string l[i].parent, .bool l[i].money] 72)).cell? ⟨w.heap.size, 3, none⟩ = some (.string l[i].parent) := by simp
                    go_region_held3 (fun w' => w'.cell? ⟨w.heap.size, 3, none⟩ = some (.string l[i].parent)) (first | exact hP3)
                      (first | (go_at_call 35; refine (refAt_k (l.take i) _ kk _ _ _ _ (by omega) (Rd.take (ha.below (by first | exact (bdrewN ((Below.refl _ _).alloc (Nat.le_refl _) _) _).drew | exact bdrewN ((Below.refl _ _).alloc (Nat.le_refl _) _) _)) (by omega)) HX.out).mono ?_; rintro e w4 ⟨rfl, rfl⟩))
                    go_wp2_with fail
                    go_quiet (fail)
                    go_wp2_with fail
                    go_ret
                    exact ⟨ret_int (HF.out).symm, bdrewN (bdrewN ((Below.refl _ _).alloc (Nat.le_refl _) _) _) _⟩
          · have HO := hide (ord_z (show i = 0 by omega) hil)
            have hd0 : decide (0 < i) = false := by simpa using hi0
            clear hi0
            cases h8 : l[i].parent.toList.isEmpty with
            | true =>
              have HF := hide (accR_p hk1 hk2 (HO.out) h8)
              clear H
              go_wp2_with fail
              go_quiet (fail)
              go_wp2_with fail
              go_ret
              exact ⟨ret_int (HF.out).symm, bdrewN ((Below.refl _ _).alloc (Nat.le_refl _) _) _⟩
            | false =>
              cases h9 : idxO (l.take i) l[i].parent with
              | none =>
                have HF := hide (accR_n hk1 hk2 (HO.out) h8 h9)
                have HX : Hid (idxI (l.take i) l[i].parent = -1) := by show idxI _ _ = _; simp [idxI, h9]
                clear h9 H
                go_wp2_with fail
                go_quiet (fail)
                go_wp2_with fail
                have j0 : (0 : Int) ≤ (i : Int) := by omega
                have j1 : (i : Int) ≤ (cap : Int) := by omega
                have hP3 : (w.alloc (.cells #[.string l[i].code, .string l[i].name, .int .i64 l[i].kind, .string l[i].parent, .bool l[i].money] 72)).cell? ⟨w.heap.size, 3, none⟩ = some (.string l[i].parent) := by simp
                go_region_held3 (fun w' => w'.cell? ⟨w.heap.size, 3, none⟩ = some (.string l[i].parent)) (first | exact hP3)
                  (first | (go_at_call 35; refine (refAt_k (l.take i) _ (-1) _ _ _ _ (by omega) (Rd.take (ha.below (by first | exact (bdrewN ((Below.refl _ _).alloc (Nat.le_refl _) _) _).drew | exact bdrewN ((Below.refl _ _).alloc (Nat.le_refl _) _) _)) (by omega)) HX.out).mono ?_; rintro e w4 ⟨rfl, rfl⟩))
                go_wp2_with fail
                go_ret
                exact ⟨ret_int (HF.out).symm, bdrewN ((Below.refl _ _).alloc (Nat.le_refl _) _) _⟩
              | some kk =>
                have hk' := idxO_lt h9
                rw [List.length_take] at hk'
                have hkk : kk < i := by omega
                have hq := (hcs kk (by omega)).2.2.1
                have hqi : (kk : Int) < (n : Int) := by omega
                have hq0 : 0 ≤ (kk : Int) := by omega
                have HS := accR_s hk1 hk2 (HO.out) h8 h9
                have hkd0 : (l.take i)[kk]? = some (l[kk]'(by omega)) := by rw [List.getElem?_take, if_pos hkk, List.getElem?_eq_getElem]
                rw [hkd0] at HS
                simp only [Option.map_some, Option.some.injEq] at HS
                have HX : Hid (idxI (l.take i) l[i].parent = (kk : Int)) := by show idxI _ _ = _; simp [idxI, h9]
                clear h9 hkd0 H
                by_cases hkd : (l[kk]'(by omega)).kind = l[i].kind
                · rw [if_pos hkd] at HS
                  have HF := hide HS
                  have kd1 : ((l[kk]'(by omega)).kind == l[i].kind) = true := by simp [hkd]
                  have kd2 : ((l[kk]'(by omega)).kind != l[i].kind) = false := by simp [hkd]
                  clear hkd HS
                  go_wp2_with fail
                  go_quiet (fail)
                  go_wp2_with fail
                  have j0 : (0 : Int) ≤ (i : Int) := by omega
                  have j1 : (i : Int) ≤ (cap : Int) := by omega
                  have hP3 : (w.alloc (.cells #[.string l[i].code, .string l[i].name, .int .i64 l[i].kind, .string l[i].parent, .bool l[i].money] 72)).cell? ⟨w.heap.size, 3, none⟩ = some (.string l[i].parent) := by simp
                  go_region_held3 (fun w' => w'.cell? ⟨w.heap.size, 3, none⟩ = some (.string l[i].parent)) (first | exact hP3)
                    (first | (go_at_call 35; refine (refAt_k (l.take i) _ kk _ _ _ _ (by omega) (Rd.take (ha.below (by first | exact (bdrewN ((Below.refl _ _).alloc (Nat.le_refl _) _) _).drew | exact bdrewN ((Below.refl _ _).alloc (Nat.le_refl _) _) _)) (by omega)) HX.out).mono ?_; rintro e w4 ⟨rfl, rfl⟩))
                  go_wp2_with fail
                  go_quiet (fail)
                  go_wp2_with fail
                  go_ret
                  exact ⟨ret_int (HF.out).symm, bdrewN (bdrewN ((Below.refl _ _).alloc (Nat.le_refl _) _) _) _⟩
                · rw [if_neg hkd] at HS
                  have HF := hide HS
                  have kd1 : ((l[kk]'(by omega)).kind == l[i].kind) = false := by simp [hkd]
                  have kd2 : ((l[kk]'(by omega)).kind != l[i].kind) = true := by simp [hkd]
                  clear hkd HS
                  go_wp2_with fail
                  go_quiet (fail)
                  go_wp2_with fail
                  have j0 : (0 : Int) ≤ (i : Int) := by omega
                  have j1 : (i : Int) ≤ (cap : Int) := by omega
                  have hP3 : (w.alloc (.cells #[.string l[i].code, .string l[i].name, .int .i64 l[i].kind, .string l[i].parent, .bool l[i].money] 72)).cell? ⟨w.heap.size, 3, none⟩ = some (.string l[i].parent) := by simp
                  go_region_held3 (fun w' => w'.cell? ⟨w.heap.size, 3, none⟩ = some (.string l[i].parent)) (first | exact hP3)
                    (first | (go_at_call 35; refine (refAt_k (l.take i) _ kk _ _ _ _ (by omega) (Rd.take (ha.below (by first | exact (bdrewN ((Below.refl _ _).alloc (Nat.le_refl _) _) _).drew | exact bdrewN ((Below.refl _ _).alloc (Nat.le_refl _) _) _)) (by omega)) HX.out).mono ?_; rintro e w4 ⟨rfl, rfl⟩))
                  go_wp2_with fail
                  go_quiet (fail)
                  go_wp2_with fail
                  go_ret
                  exact ⟨ret_int (HF.out).symm, bdrewN (bdrewN ((Below.refl _ _).alloc (Nat.le_refl _) _) _) _⟩
end Go.Proofs.YtbdbpcllndajgaaGreatDoor

namespace Go.Proofs.YtbdbpcllndajgaaGreatDoor
open Go Go.RowKit
set_option linter.unusedVariables false

theorem refAccount_any (l : List Acc) (A : Option Addr) (n cap i : Nat) (w : World) (hl : n ≤ 9223372036854775807) (hcap : n ≤ cap) (ha : Accs w A n l) (hok : AccOk l) (hil : i < l.length) :
    Calls Tryz.prog 34 #[.slice A n cap, .int .i64 i] w fun e w' => e = .returned (.int .i64 (accE l i)) ∧ Below w.heap.size w w' := by
  obtain ⟨hs1, hs2⟩ := hok i hil
  rw [accE_at hil]
  cases h1 : digitsB l[i].code 6 with
  | false =>
    rw [show accF (l.take i) l[i] = 2 from by unfold accF; rw [if_pos h1]]
    exact rac_1 l A n cap i w hl hcap ha hil hs1 hs2 h1
  | true =>
    have hb : nameB l[i].name = false → accF (l.take i) l[i] = 2 := fun h2 => by unfold accF; rw [if_neg (by simp [h1]), if_pos h2]
    cases h2 : l[i].name.toList.isEmpty with
    | true =>
      rw [hb (by simp [nameB, h2])]
      exact rac_2 l A n cap i w hl hcap ha hil hs1 hs2 h1 h2
    | false =>
      by_cases h3 : (l[i].name.size : Int) ≤ 24
      · cases h4 : allIn l[i].name nameSet with
        | false =>
          rw [hb (by simp [nameB, h4])]
          exact rac_4 l A n cap i w hl hcap ha hil hs1 hs2 h1 h2 h3 (hide h4)
        | true =>
          rw [accF_R h1 (by simp [nameB, h2, h3, h4])]
          exact rac_T l A n cap i w hl hcap ha hil hs1 hs2 h1 h2 h3 (hide h4)
      · rw [hb (by simp [nameB, h3])]
        exact rac_3 l A n cap i w hl hcap ha hil hs1 hs2 h1 h2 (by omega)

theorem refChart_any (l : List Acc) (A : Option Addr) (n cap : Nat) (w : World) (hl : n ≤ 9223372036854775807) (hcap : n ≤ cap) (ha : Accs w A n l) (hok : AccOk l) :
    Calls Tryz.prog 13 #[.slice A n cap] w fun e w' => e = .returned (.int .i64 (chartE l)) ∧ Below w.heap.size w w' := by
  have hn : l.length = n := ha.1
  by_cases h60 : 60 < n
  · have hf : chartE l = 4 := by rw [chartE, if_pos (by omega)]
    rw [hf]
    have h60' : (60 : Int) < (n : Int) := by omega
    clear hf h60 hn
    go_enter Tryz.func13, Tryz.ntmps13
    go_wp2_with fail
    go_ret
    exact ⟨rfl, Below.refl _ _⟩
  · have hf : chartE l = scanE l 0 l.length := by rw [chartE, if_neg (by omega)]
    rw [hf]
    have h60' : (n : Int) ≤ 60 := by omega
    have h60d : decide ((60 : Int) < (n : Int)) = false := by simp; omega
    have Hn := hide hn
    clear hf h60 hn
    go_enter Tryz.func13, Tryz.ntmps13
    go_wp2_with fail
    go_loopw [3] (fun i wr => ∃ k : Nat, k ≤ n ∧ i = .int .i64 k ∧ OkTo l k ∧ Below w.heap.size w wr) (fun i _ => n - (intOf i).toNat)
    case atStart => exact ⟨0, by omega, rfl, fun j hj => absurd hj (by omega), Below.refl _ _⟩
    case round =>
      obtain ⟨k, hk, rfl, hno, hb⟩ := hrel
      by_cases hlt : k < n
      · have hkl : k < l.length := by have := Hn.out; omega
        by_cases he : accE l k = 0
        · have HE := hide he
          have he1 : (accE l k == 0) = true := by rw [beq_iff_eq]; exact he
          have he2 : (accE l k != 0) = false := by rw [bne, he1]; rfl
          clear he
          go_wp2_with (go_at_call 34; refine (refAccount_any l _ _ _ _ _ hl hcap (ha.below hb) hok hkl).mono ?_; rintro e w1 ⟨rfl, hb1⟩)
          go_roundw
          case rel => exact ⟨k + 1, by omega, by go_num, fun j hj => (by by_cases e : j = k; (· subst e; exact HE.out); (· exact hno j (by omega))), bthen hb (Nat.le_refl _) hb1⟩
          case measure => simp [intOf]; omega
        · have HE := hide he
          have he1 : (accE l k == 0) = false := by rw [beq_eq_false_iff_ne]; exact he
          have he2 : (accE l k != 0) = true := by rw [bne, he1]; rfl
          clear he
          go_wp2_with (go_at_call 34; refine (refAccount_any l _ _ _ _ _ hl hcap (ha.below hb) hok hkl).mono ?_; rintro e w1 ⟨rfl, hb1⟩)
          go_ret
          exact ⟨ret_int (scanE_hit hno HE.out _ 0 (by omega) (by omega)).symm, bthen hb (Nat.le_refl _) hb1⟩
      · go_wp2_with fail
        go_ret
        exact ⟨ret_int (scanE_none (m := k) hno _ 0 (by have := Hn.out; omega)).symm, hb⟩
end Go.Proofs.YtbdbpcllndajgaaGreatDoor
