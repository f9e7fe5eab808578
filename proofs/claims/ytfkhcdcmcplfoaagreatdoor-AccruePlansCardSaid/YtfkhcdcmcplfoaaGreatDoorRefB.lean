/- dayref1.Account, walked. -/
import Derived.Test.YtfkhcdcmcplfoaaGreatDoorRefA
import Derived.Deep.QuietTactic
import Derived.BigQuiet
import Derived.IntWalk
import Derived.Deep.RegionHeld3
namespace Go.Proofs.YtfkhcdcmcplfoaaGreatDoor
open Go Go.RowKit
set_option linter.unusedVariables false

theorem rac_1 (l : List Acc) (A : Option Addr) (n cap i : Nat) (w : World) (hl : n ≤ 9223372036854775807) (hcap : n ≤ cap) (ha : Accs w A n l) (hil : i < l.length)
    (hs1 : l[i].code.size ≤ 9223372036854775807) (hs2 : l[i].name.size ≤ 9223372036854775807) (hd : digitsB l[i].code 6 = false) :
    Calls Tryz.prog 43 #[.slice A n cap, .int .i64 i] w fun e w' => e = .returned (.int .i64 2) ∧ Below w.heap.size w w' := by
  have hn : l.length = n := ha.1
  have hi : i < n := by omega
  have Hn := hide hn
  clear hn
  obtain ⟨b, off, rfl, hcs⟩ := ha.at_ (by omega)
  obtain ⟨h0, h1, h2, h3, h4⟩ := hcs i hil
  have hbl : b < w.heap.size := World.block_lt_of_cell? _ _ h0
  clear hcs
  go_enter Tryz.func43, Tryz.ntmps43
  go_wp2_with (go_at_call 73; refine (refDigits_any _ _ _ hs1).mono ?_; rintro e w1 ⟨rfl, rfl⟩)
  go_ret
  exact ⟨rfl, (Below.refl _ _).alloc (Nat.le_refl _) _⟩

theorem rac_2 (l : List Acc) (A : Option Addr) (n cap i : Nat) (w : World) (hl : n ≤ 9223372036854775807) (hcap : n ≤ cap) (ha : Accs w A n l) (hil : i < l.length)
    (hs1 : l[i].code.size ≤ 9223372036854775807) (hs2 : l[i].name.size ≤ 9223372036854775807) (hd : digitsB l[i].code 6 = true) (hn1 : l[i].name.toList.isEmpty = true) :
    Calls Tryz.prog 43 #[.slice A n cap, .int .i64 i] w fun e w' => e = .returned (.int .i64 2) ∧ Below w.heap.size w w' := by
  have hn : l.length = n := ha.1
  have hi : i < n := by omega
  have Hn := hide hn
  clear hn
  obtain ⟨b, off, rfl, hcs⟩ := ha.at_ (by omega)
  obtain ⟨h0, h1, h2, h3, h4⟩ := hcs i hil
  have hbl : b < w.heap.size := World.block_lt_of_cell? _ _ h0
  clear hcs
  go_enter Tryz.func43, Tryz.ntmps43
  go_wp2_with (go_at_call 73; refine (refDigits_any _ _ _ hs1).mono ?_; rintro e w1 ⟨rfl, rfl⟩)
  go_ret
  exact ⟨rfl, (Below.refl _ _).alloc (Nat.le_refl _) _⟩

theorem rac_3 (l : List Acc) (A : Option Addr) (n cap i : Nat) (w : World) (hl : n ≤ 9223372036854775807) (hcap : n ≤ cap) (ha : Accs w A n l) (hil : i < l.length)
    (hs1 : l[i].code.size ≤ 9223372036854775807) (hs2 : l[i].name.size ≤ 9223372036854775807) (hd : digitsB l[i].code 6 = true) (hn1 : l[i].name.toList.isEmpty = false) (hn2 : 24 < (l[i].name.size : Int)) :
    Calls Tryz.prog 43 #[.slice A n cap, .int .i64 i] w fun e w' => e = .returned (.int .i64 2) ∧ Below w.heap.size w w' := by
  have hn : l.length = n := ha.1
  have hi : i < n := by omega
  have Hn := hide hn
  clear hn
  obtain ⟨b, off, rfl, hcs⟩ := ha.at_ (by omega)
  obtain ⟨h0, h1, h2, h3, h4⟩ := hcs i hil
  have hbl : b < w.heap.size := World.block_lt_of_cell? _ _ h0
  clear hcs
  go_enter Tryz.func43, Tryz.ntmps43
  go_wp2_with (go_at_call 73; refine (refDigits_any _ _ _ hs1).mono ?_; rintro e w1 ⟨rfl, rfl⟩)
  go_ret
  exact ⟨rfl, (Below.refl _ _).alloc (Nat.le_refl _) _⟩

set_option maxHeartbeats 4000000 in
theorem rac_4 (l : List Acc) (A : Option Addr) (n cap i : Nat) (w : World) (hl : n ≤ 9223372036854775807) (hcap : n ≤ cap) (ha : Accs w A n l) (hil : i < l.length)
    (hs1 : l[i].code.size ≤ 9223372036854775807) (hs2 : l[i].name.size ≤ 9223372036854775807) (hd : digitsB l[i].code 6 = true) (hn1 : l[i].name.toList.isEmpty = false) (hn2 : (l[i].name.size : Int) ≤ 24) (H : Hid (allIn l[i].name nameSet = false)) :
    Calls Tryz.prog 43 #[.slice A n cap, .int .i64 i] w fun e w' => e = .returned (.int .i64 2) ∧ Below w.heap.size w w' := by
  have hn : l.length = n := ha.1
  have hi : i < n := by omega
  have Hn := hide hn
  clear hn
  obtain ⟨b, off, rfl, hcs⟩ := ha.at_ (by omega)
  obtain ⟨h0, h1, h2, h3, h4⟩ := hcs i hil
  have hbl : b < w.heap.size := World.block_lt_of_cell? _ _ h0
  clear hcs
  go_enter Tryz.func43, Tryz.ntmps43
  go_wp2_with (go_at_call 73; refine (refDigits_any _ _ _ hs1).mono ?_; rintro e w1 ⟨rfl, rfl⟩)
  go_loop [7] (fun i' => ∃ k : Nat, k ≤ l[i].name.size ∧ i' = .int .i64 k ∧ InTo l[i].name nameSet k) (fun i' => l[i].name.size - (intOf i').toNat)
  case atStart => exact ⟨0, by omega, rfl, InTo.zero _ _⟩
  case round =>
    obtain ⟨k, hk, rfl, hin⟩ := hrel
    by_cases hlt : k < l[i].name.size
    · have HB := hide (name_byte (l[i].name[k]))
      by_cases g : (l[i].name[k].toNat : Int) ≤ 44
      · have a2 : (l[i].name[k].toNat : Int) ≤ 44 := by omega
        have a3 : ((l[i].name[k].toNat : Int) == 45) = false := by rw [beq_eq_false_iff_ne]; omega
        have a4 : ((l[i].name[k].toNat : Int) != 45) = true := by rw [bne, a3]; rfl
        clear g
        go_wp2_with fail
        go_ret
        exact ⟨rfl, (Below.refl _ _).alloc (Nat.le_refl _) _⟩
      · have g44 : 45 ≤ (l[i].name[k].toNat : Int) := by omega
        clear g
        by_cases g : (l[i].name[k].toNat : Int) ≤ 45
        · have a1 : 45 ≤ (l[i].name[k].toNat : Int) := by omega
          have a2 : (l[i].name[k].toNat : Int) ≤ 45 := by omega
          have a3 : ((l[i].name[k].toNat : Int) == 45) = true := by simp; omega
          have a4 : ((l[i].name[k].toNat : Int) != 45) = false := by rw [bne, a3]; rfl
          clear g
          go_wp2_with fail
          go_round
          case rel => exact ⟨k + 1, by omega, by go_num, hin.succ hlt (by rw [HB.out]; simp; omega)⟩
          case measure => simp [intOf]; omega
        · have g45 : 46 ≤ (l[i].name[k].toNat : Int) := by omega
          clear g
          by_cases g : (l[i].name[k].toNat : Int) ≤ 47
          · have a1 : 46 ≤ (l[i].name[k].toNat : Int) := by omega
            have a2 : (l[i].name[k].toNat : Int) ≤ 47 := by omega
            have a3 : ((l[i].name[k].toNat : Int) == 45) = false := by rw [beq_eq_false_iff_ne]; omega
            have a4 : ((l[i].name[k].toNat : Int) != 45) = true := by rw [bne, a3]; rfl
            clear g
            go_wp2_with fail
            go_ret
            exact ⟨rfl, (Below.refl _ _).alloc (Nat.le_refl _) _⟩
          · have g47 : 48 ≤ (l[i].name[k].toNat : Int) := by omega
            clear g
            by_cases g : (l[i].name[k].toNat : Int) ≤ 57
            · have a1 : 48 ≤ (l[i].name[k].toNat : Int) := by omega
              have a2 : (l[i].name[k].toNat : Int) ≤ 57 := by omega
              have a3 : ((l[i].name[k].toNat : Int) == 45) = false := by rw [beq_eq_false_iff_ne]; omega
              have a4 : ((l[i].name[k].toNat : Int) != 45) = true := by rw [bne, a3]; rfl
              clear g
              go_wp2_with fail
              go_round
              case rel => exact ⟨k + 1, by omega, by go_num, hin.succ hlt (by rw [HB.out]; simp; omega)⟩
              case measure => simp [intOf]; omega
            · have g57 : 58 ≤ (l[i].name[k].toNat : Int) := by omega
              clear g
              by_cases g : (l[i].name[k].toNat : Int) ≤ 64
              · have a1 : 58 ≤ (l[i].name[k].toNat : Int) := by omega
                have a2 : (l[i].name[k].toNat : Int) ≤ 64 := by omega
                have a3 : ((l[i].name[k].toNat : Int) == 45) = false := by rw [beq_eq_false_iff_ne]; omega
                have a4 : ((l[i].name[k].toNat : Int) != 45) = true := by rw [bne, a3]; rfl
                clear g
                go_wp2_with fail
                go_ret
                exact ⟨rfl, (Below.refl _ _).alloc (Nat.le_refl _) _⟩
              · have g64 : 65 ≤ (l[i].name[k].toNat : Int) := by omega
                clear g
                by_cases g : (l[i].name[k].toNat : Int) ≤ 90
                · have a1 : 65 ≤ (l[i].name[k].toNat : Int) := by omega
                  have a2 : (l[i].name[k].toNat : Int) ≤ 90 := by omega
                  have a3 : ((l[i].name[k].toNat : Int) == 45) = false := by rw [beq_eq_false_iff_ne]; omega
                  have a4 : ((l[i].name[k].toNat : Int) != 45) = true := by rw [bne, a3]; rfl
                  clear g
                  go_wp2_with fail
                  go_round
                  case rel => exact ⟨k + 1, by omega, by go_num, hin.succ hlt (by rw [HB.out]; simp; omega)⟩
                  case measure => simp [intOf]; omega
                · have g90 : 91 ≤ (l[i].name[k].toNat : Int) := by omega
                  clear g
                  by_cases g : (l[i].name[k].toNat : Int) ≤ 96
                  · have a1 : 91 ≤ (l[i].name[k].toNat : Int) := by omega
                    have a2 : (l[i].name[k].toNat : Int) ≤ 96 := by omega
                    have a3 : ((l[i].name[k].toNat : Int) == 45) = false := by rw [beq_eq_false_iff_ne]; omega
                    have a4 : ((l[i].name[k].toNat : Int) != 45) = true := by rw [bne, a3]; rfl
                    clear g
                    go_wp2_with fail
                    go_ret
                    exact ⟨rfl, (Below.refl _ _).alloc (Nat.le_refl _) _⟩
                  · have g96 : 97 ≤ (l[i].name[k].toNat : Int) := by omega
                    clear g
                    by_cases g : (l[i].name[k].toNat : Int) ≤ 122
                    · have a1 : 97 ≤ (l[i].name[k].toNat : Int) := by omega
                      have a2 : (l[i].name[k].toNat : Int) ≤ 122 := by omega
                      have a3 : ((l[i].name[k].toNat : Int) == 45) = false := by rw [beq_eq_false_iff_ne]; omega
                      have a4 : ((l[i].name[k].toNat : Int) != 45) = true := by rw [bne, a3]; rfl
                      clear g
                      go_wp2_with fail
                      go_round
                      case rel => exact ⟨k + 1, by omega, by go_num, hin.succ hlt (by rw [HB.out]; simp; omega)⟩
                      case measure => simp [intOf]; omega
                    · have g122 : 123 ≤ (l[i].name[k].toNat : Int) := by omega
                      clear g
                      have a1 : 123 ≤ (l[i].name[k].toNat : Int) := by omega
                      have a3 : ((l[i].name[k].toNat : Int) == 45) = false := by rw [beq_eq_false_iff_ne]; omega
                      have a4 : ((l[i].name[k].toNat : Int) != 45) = true := by rw [bne, a3]; rfl
                      go_wp2_with fail
                      go_ret
                      exact ⟨rfl, (Below.refl _ _).alloc (Nat.le_refl _) _⟩
    · exfalso
      have := hin.all (by omega)
      rw [H.out] at this; cases this

/-- what is wrong behind code and name -/
def accR (f : List Acc) (a : Acc) : Int :=
  if a.kind < 1 then 1 else
  if 5 < a.kind then 1 else
  if ordOk f a = false then 5 else
  if a.parent.toList.isEmpty = true then 0 else
  match idxO f a.parent with
  | none => 6
  | some k => if (f[k]?.map (·.kind)) = some a.kind then 0 else 12
theorem accF_R {f : List Acc} {a : Acc} (h1 : digitsB a.code 6 = true) (h2 : nameB a.name = true) : accF f a = accR f a := by
  unfold accF accR
  rw [if_neg (by simp [h1]), if_neg (by simp [h2])]
  rfl
theorem accR_k1 {f : List Acc} {a : Acc} (h : a.kind < 1) : accR f a = 1 := by unfold accR; rw [if_pos h]
theorem accR_k5 {f : List Acc} {a : Acc} (h0 : 1 ≤ a.kind) (h : 5 < a.kind) : accR f a = 1 := by unfold accR; rw [if_neg (by omega), if_pos h]
theorem accR_o {f : List Acc} {a : Acc} (h0 : 1 ≤ a.kind) (h1 : a.kind ≤ 5) (h : ordOk f a = false) : accR f a = 5 := by unfold accR; rw [if_neg (by omega), if_neg (by omega), if_pos h]
theorem accR_p {f : List Acc} {a : Acc} (h0 : 1 ≤ a.kind) (h1 : a.kind ≤ 5) (h : ordOk f a = true) (hp : a.parent.toList.isEmpty = true) : accR f a = 0 := by
  unfold accR; rw [if_neg (by omega), if_neg (by omega), if_neg (by simp [h]), if_pos hp]
theorem accR_n {f : List Acc} {a : Acc} (h0 : 1 ≤ a.kind) (h1 : a.kind ≤ 5) (h : ordOk f a = true) (hp : a.parent.toList.isEmpty = false) (hx : idxO f a.parent = none) : accR f a = 6 := by
  unfold accR; rw [if_neg (by omega), if_neg (by omega), if_neg (by simp [h]), if_neg (by simp [hp]), hx]
theorem accR_s {f : List Acc} {a : Acc} {k : Nat} (h0 : 1 ≤ a.kind) (h1 : a.kind ≤ 5) (h : ordOk f a = true) (hp : a.parent.toList.isEmpty = false) (hx : idxO f a.parent = some k) : accR f a = if (f[k]?.map (·.kind)) = some a.kind then 0 else 12 := by
  unfold accR; rw [if_neg (by omega), if_neg (by omega), if_neg (by simp [h]), if_neg (by simp [hp]), hx]
theorem ord_p {l : List Acc} {i : Nat} (h0 : 0 < i) (h : i < l.length) : ordOk (l.take i) l[i] = Op.bytesLess (l[i-1]'(by omega)).code.toList l[i].code.toList := by unfold ordOk; rw [take_last h0 h]
theorem ord_z {l : List Acc} {i : Nat} (h0 : i = 0) (h : i < l.length) : ordOk (l.take i) l[i] = true := by unfold ordOk; rw [show (l.take i).getLast? = none from by rw [h0]; rfl]
theorem refAt_k (l : List Acc) (c : ByteArray) (k : Int) (A : Option Addr) (n cap : Nat) (w : World) (hl : n ≤ 9223372036854775807) (ha : Accs w A n l) (hk : idxI l c = k) :
    Calls Tryz.prog 44 #[.slice A n cap, .string c] w fun e w' => e = .returned (.int .i64 k) ∧ w = w' := by
  subst hk; exact refAt_any l c A n cap w hl ha

set_option maxHeartbeats 40000000 in
set_option maxRecDepth 100000 in
theorem rac_T (l : List Acc) (A : Option Addr) (n cap i : Nat) (w : World) (hl : n ≤ 9223372036854775807) (hcap : n ≤ cap) (ha : Accs w A n l) (hil : i < l.length)
    (hs1 : l[i].code.size ≤ 9223372036854775807) (hs2 : l[i].name.size ≤ 9223372036854775807) (hd : digitsB l[i].code 6 = true) (hn1 : l[i].name.toList.isEmpty = false) (hn2 : (l[i].name.size : Int) ≤ 24) (H : Hid (allIn l[i].name nameSet = true)) :
    Calls Tryz.prog 43 #[.slice A n cap, .int .i64 i] w fun e w' => e = .returned (.int .i64 (accR (l.take i) l[i])) ∧ Below w.heap.size w w' := by
  have hn : l.length = n := ha.1
  have hi : i < n := by omega
  have Hn := hide hn
  clear hn
  obtain ⟨b, off, rfl, hcs⟩ := ha.at_ (by omega)
  obtain ⟨h0, h1, h2, h3, h4⟩ := hcs i hil
  have hbl : b < w.heap.size := World.block_lt_of_cell? _ _ h0
  go_enter Tryz.func43, Tryz.ntmps43
  go_wp2_with (go_at_call 73; refine (refDigits_any _ _ _ hs1).mono ?_; rintro e w1 ⟨rfl, rfl⟩)
  go_loop [7] (fun i' => ∃ k : Nat, k ≤ l[i].name.size ∧ i' = .int .i64 k ∧ InTo l[i].name nameSet k) (fun i' => l[i].name.size - (intOf i').toNat)
  case atStart => exact ⟨0, by omega, rfl, InTo.zero _ _⟩
  case round =>
    obtain ⟨k, hk, rfl, hin⟩ := hrel
    by_cases hlt : k < l[i].name.size
    · have HB := hide (name_byte (l[i].name[k]))
      by_cases g : (l[i].name[k].toNat : Int) ≤ 44
      · have a2 : (l[i].name[k].toNat : Int) ≤ 44 := by omega
        have a3 : ((l[i].name[k].toNat : Int) == 45) = false := by rw [beq_eq_false_iff_ne]; omega
        have a4 : ((l[i].name[k].toNat : Int) != 45) = true := by rw [bne, a3]; rfl
        clear g
        exfalso
        have e1 := InTo.not (cs := nameSet) hlt (by rw [HB.out]; simp; omega)
        rw [H.out] at e1; cases e1
      · have g44 : 45 ≤ (l[i].name[k].toNat : Int) := by omega
        clear g
        by_cases g : (l[i].name[k].toNat : Int) ≤ 45
        · have a1 : 45 ≤ (l[i].name[k].toNat : Int) := by omega
          have a2 : (l[i].name[k].toNat : Int) ≤ 45 := by omega
          have a3 : ((l[i].name[k].toNat : Int) == 45) = true := by simp; omega
          have a4 : ((l[i].name[k].toNat : Int) != 45) = false := by rw [bne, a3]; rfl
          clear g
          go_wp2_with fail
          go_round
          case rel => exact ⟨k + 1, by omega, by go_num, hin.succ hlt (by rw [HB.out]; simp; omega)⟩
          case measure => simp [intOf]; omega
        · have g45 : 46 ≤ (l[i].name[k].toNat : Int) := by omega
          clear g
          by_cases g : (l[i].name[k].toNat : Int) ≤ 47
          · have a1 : 46 ≤ (l[i].name[k].toNat : Int) := by omega
            have a2 : (l[i].name[k].toNat : Int) ≤ 47 := by omega
            have a3 : ((l[i].name[k].toNat : Int) == 45) = false := by rw [beq_eq_false_iff_ne]; omega
            have a4 : ((l[i].name[k].toNat : Int) != 45) = true := by rw [bne, a3]; rfl
            clear g
            exfalso
            have e1 := InTo.not (cs := nameSet) hlt (by rw [HB.out]; simp; omega)
            rw [H.out] at e1; cases e1
          · have g47 : 48 ≤ (l[i].name[k].toNat : Int) := by omega
            clear g
            by_cases g : (l[i].name[k].toNat : Int) ≤ 57
            · have a1 : 48 ≤ (l[i].name[k].toNat : Int) := by omega
              have a2 : (l[i].name[k].toNat : Int) ≤ 57 := by omega
              have a3 : ((l[i].name[k].toNat : Int) == 45) = false := by rw [beq_eq_false_iff_ne]; omega
              have a4 : ((l[i].name[k].toNat : Int) != 45) = true := by rw [bne, a3]; rfl
              clear g
              go_wp2_with fail
              go_round
              case rel => exact ⟨k + 1, by omega, by go_num, hin.succ hlt (by rw [HB.out]; simp; omega)⟩
              case measure => simp [intOf]; omega
            · have g57 : 58 ≤ (l[i].name[k].toNat : Int) := by omega
              clear g
              by_cases g : (l[i].name[k].toNat : Int) ≤ 64
              · have a1 : 58 ≤ (l[i].name[k].toNat : Int) := by omega
                have a2 : (l[i].name[k].toNat : Int) ≤ 64 := by omega
                have a3 : ((l[i].name[k].toNat : Int) == 45) = false := by rw [beq_eq_false_iff_ne]; omega
                have a4 : ((l[i].name[k].toNat : Int) != 45) = true := by rw [bne, a3]; rfl
                clear g
                exfalso
                have e1 := InTo.not (cs := nameSet) hlt (by rw [HB.out]; simp; omega)
                rw [H.out] at e1; cases e1
              · have g64 : 65 ≤ (l[i].name[k].toNat : Int) := by omega
                clear g
                by_cases g : (l[i].name[k].toNat : Int) ≤ 90
                · have a1 : 65 ≤ (l[i].name[k].toNat : Int) := by omega
                  have a2 : (l[i].name[k].toNat : Int) ≤ 90 := by omega
                  have a3 : ((l[i].name[k].toNat : Int) == 45) = false := by rw [beq_eq_false_iff_ne]; omega
                  have a4 : ((l[i].name[k].toNat : Int) != 45) = true := by rw [bne, a3]; rfl
                  clear g
                  go_wp2_with fail
                  go_round
                  case rel => exact ⟨k + 1, by omega, by go_num, hin.succ hlt (by rw [HB.out]; simp; omega)⟩
                  case measure => simp [intOf]; omega
                · have g90 : 91 ≤ (l[i].name[k].toNat : Int) := by omega
                  clear g
                  by_cases g : (l[i].name[k].toNat : Int) ≤ 96
                  · have a1 : 91 ≤ (l[i].name[k].toNat : Int) := by omega
                    have a2 : (l[i].name[k].toNat : Int) ≤ 96 := by omega
                    have a3 : ((l[i].name[k].toNat : Int) == 45) = false := by rw [beq_eq_false_iff_ne]; omega
                    have a4 : ((l[i].name[k].toNat : Int) != 45) = true := by rw [bne, a3]; rfl
                    clear g
                    exfalso
                    have e1 := InTo.not (cs := nameSet) hlt (by rw [HB.out]; simp; omega)
                    rw [H.out] at e1; cases e1
                  · have g96 : 97 ≤ (l[i].name[k].toNat : Int) := by omega
                    clear g
                    by_cases g : (l[i].name[k].toNat : Int) ≤ 122
                    · have a1 : 97 ≤ (l[i].name[k].toNat : Int) := by omega
                      have a2 : (l[i].name[k].toNat : Int) ≤ 122 := by omega
                      have a3 : ((l[i].name[k].toNat : Int) == 45) = false := by rw [beq_eq_false_iff_ne]; omega
                      have a4 : ((l[i].name[k].toNat : Int) != 45) = true := by rw [bne, a3]; rfl
                      clear g
                      go_wp2_with fail
                      go_round
                      case rel => exact ⟨k + 1, by omega, by go_num, hin.succ hlt (by rw [HB.out]; simp; omega)⟩
                      case measure => simp [intOf]; omega
                    · have g122 : 123 ≤ (l[i].name[k].toNat : Int) := by omega
                      clear g
                      have a1 : 123 ≤ (l[i].name[k].toNat : Int) := by omega
                      have a3 : ((l[i].name[k].toNat : Int) == 45) = false := by rw [beq_eq_false_iff_ne]; omega
                      have a4 : ((l[i].name[k].toNat : Int) != 45) = true := by rw [bne, a3]; rfl
                      exfalso
                      have e1 := InTo.not (cs := nameSet) hlt (by rw [HB.out]; simp; omega)
                      rw [H.out] at e1; cases e1
    · clear hin
      by_cases h5 : l[i].kind < 1
      · have HF := hide (accR_k1 (f := l.take i) h5)
        go_wp2_with fail
        go_ret
        exact ⟨ret_int (HF.out).symm, (Below.refl _ _).alloc (Nat.le_refl _) _⟩
      · by_cases h6 : 5 < l[i].kind
        · have hk1 : 1 ≤ l[i].kind := by omega
          have HF := hide (accR_k5 (f := l.take i) hk1 h6)
          clear h5
          go_wp2_with fail
          go_ret
          exact ⟨ret_int (HF.out).symm, (Below.refl _ _).alloc (Nat.le_refl _) _⟩
        · have hk1 : 1 ≤ l[i].kind := by omega
          have hk2 : l[i].kind ≤ 5 := by omega
          clear h5 h6
          by_cases hi0 : 0 < i
          · have hop := ord_p hi0 hil
            have hp := (hcs (i - 1) (by omega)).1
            cases h7 : Op.bytesLess (l[i-1]'(by omega)).code.toList l[i].code.toList with
            | false =>
              have HF := hide (accR_o hk1 hk2 (hop.trans h7))
              clear hop hcs
              have iw : IntKind.i64.wrap ((i : Int) - 1) = (i : Int) - 1 := IntWalk.i64_in _ (by omega)
              have i0 : 0 ≤ (i : Int) - 1 := by omega
              have i1 : 1 ≤ (i : Int) := by omega
              have it : ((i : Int) - 1).toNat = i - 1 := by omega
              have il : (i : Int) - 1 < (n : Int) := by omega
              go_wp2_with fail
              go_quiet (fail)
              clear iw it
              go_wp2_with fail
              go_ret
              exact ⟨ret_int (HF.out).symm, bdrewN ((Below.refl _ _).alloc (Nat.le_refl _) _) _⟩
            | true =>
              have HO := hide (hop.trans h7)
              clear hop
              cases h8 : l[i].parent.toList.isEmpty with
              | true =>
                have HF := hide (accR_p hk1 hk2 (HO.out) h8)
                clear H
                have iw : IntKind.i64.wrap ((i : Int) - 1) = (i : Int) - 1 := IntWalk.i64_in _ (by omega)
                have i0 : 0 ≤ (i : Int) - 1 := by omega
                have i1 : 1 ≤ (i : Int) := by omega
                have it : ((i : Int) - 1).toNat = i - 1 := by omega
                have il : (i : Int) - 1 < (n : Int) := by omega
                go_wp2_with fail
                go_quiet (fail)
                clear iw it
                go_wp2_with fail
                go_ret
                exact ⟨ret_int (HF.out).symm, bdrewN ((Below.refl _ _).alloc (Nat.le_refl _) _) _⟩
              | false =>
                cases h9 : idxO (l.take i) l[i].parent with
                | none =>
                  have HF := hide (accR_n hk1 hk2 (HO.out) h8 h9)
                  have HX : Hid (idxI (l.take i) l[i].parent = -1) := by show idxI _ _ = _; simp [idxI, h9]
                  clear h9 H
                  have iw : IntKind.i64.wrap ((i : Int) - 1) = (i : Int) - 1 := IntWalk.i64_in _ (by omega)
                  have i0 : 0 ≤ (i : Int) - 1 := by omega
                  have i1 : 1 ≤ (i : Int) := by omega
                  have it : ((i : Int) - 1).toNat = i - 1 := by omega
                  have il : (i : Int) - 1 < (n : Int) := by omega
                  go_wp2_with fail
                  go_quiet (fail)
                  clear iw it
                  go_wp2_with fail
                  have j0 : (0 : Int) ≤ (i : Int) := by omega
                  have j1 : (i : Int) ≤ (cap : Int) := by omega
                  have hP3 : (w.alloc (.cells #[.string l[i].code, .string l[i].name, .int .i64 l[i].kind, .string l[i].parent, .bool l[i].money] 74)).cell? ⟨w.heap.size, 3, none⟩ = some (.string l[i].parent) := by simp
                  go_region_held3 (fun w' => w'.cell? ⟨w.heap.size, 3, none⟩ = some (.string l[i].parent)) (first | exact hP3)
                    (first | (go_at_call 44; refine (refAt_k (l.take i) _ (-1) _ _ _ _ (by omega) (Rd.take (ha.below (by first | exact (bdrewN ((Below.refl _ _).alloc (Nat.le_refl _) _) _).drew | exact bdrewN ((Below.refl _ _).alloc (Nat.le_refl _) _) _)) (by omega)) HX.out).mono ?_; rintro e w4 ⟨rfl, rfl⟩))
                  go_wp2_with fail
                  go_ret
                  exact ⟨ret_int (HF.out).symm, bdrewN ((Below.refl _ _).alloc (Nat.le_refl _) _) _⟩
                | some kk =>
                  have hk' := idxO_lt h9
                  rw [List.length_take] at hk'
                  have hkk : kk < i := by omega
                  have hq := (hcs kk (by omega)).2.2.1
                  have hqi : (kk : Int) < (n : Int) := by omega
                  have hq0 : 0 ≤ (kk : Int) := by omega
                  have HS := accR_s hk1 hk2 (HO.out) h8 h9
                  have hkd0 : (l.take i)[kk]? = some (l[kk]'(by omega)) := by rw [List.getElem?_take, if_pos hkk, List.getElem?_eq_getElem]
                  rw [hkd0] at HS
                  simp only [Option.map_some, Option.some.injEq] at HS
                  have HX : Hid (idxI (l.take i) l[i].parent = (kk : Int)) := by show idxI _ _ = _; simp [idxI, h9]
                  clear h9 hkd0 H
                  by_cases hkd : (l[kk]'(by omega)).kind = l[i].kind
                  · rw [if_pos hkd] at HS
                    have HF := hide HS
                    have kd1 : ((l[kk]'(by omega)).kind == l[i].kind) = true := by simp [hkd]
                    have kd2 : ((l[kk]'(by omega)).kind != l[i].kind) = false := by simp [hkd]
                    clear hkd HS
                    have iw : IntKind.i64.wrap ((i : Int) - 1) = (i : Int) - 1 := IntWalk.i64_in _ (by omega)
                    have i0 : 0 ≤ (i : Int) - 1 := by omega
                    have i1 : 1 ≤ (i : Int) := by omega
                    have it : ((i : Int) - 1).toNat = i - 1 := by omega
                    have il : (i : Int) - 1 < (n : Int) := by omega
                    go_wp2_with fail
                    go_quiet (fail)
                    clear iw it
                    go_wp2_with fail
                    have j0 : (0 : Int) ≤ (i : Int) := by omega
                    have j1 : (i : Int) ≤ (cap : Int) := by omega
                    have hP3 : (w.alloc (.cells #[.string l[i].code, .string l[i].name, .int .i64 l[i].kind, .string l[i].parent, .bool l[i].money] 74)).cell? ⟨w.heap.size, 3, none⟩ = some (.string l[i].parent) := by simp
                    go_region_held3 (fun w' => w'.cell? ⟨w.heap.size, 3, none⟩ = some (.string l[i].parent)) (first | exact hP3)
                      (first | (go_at_call 44; refine (refAt_k (l.take i) _ kk _ _ _ _ (by omega) (Rd.take (ha.below (by first | exact (bdrewN ((Below.refl _ _).alloc (Nat.le_refl _) _) _).drew | exact bdrewN ((Below.refl _ _).alloc (Nat.le_refl _) _) _)) (by omega)) HX.out).mono ?_; rintro e w4 ⟨rfl, rfl⟩))
                    go_wp2_with fail
                    go_quiet (fail)
                    go_wp2_with fail
                    go_ret
                    exact ⟨ret_int (HF.out).symm, bdrewN (bdrewN ((Below.refl _ _).alloc (Nat.le_refl _) _) _) _⟩
                  · rw [if_neg hkd] at HS
                    have HF := hide HS
                    have kd1 : ((l[kk]'(by omega)).kind == l[i].kind) = false := by simp [hkd]
                    have kd2 : ((l[kk]'(by omega)).kind != l[i].kind) = true := by simp [hkd]
                    clear hkd HS
                    have iw : IntKind.i64.wrap ((i : Int) - 1) = (i : Int) - 1 := IntWalk.i64_in _ (by omega)
                    have i0 : 0 ≤ (i : Int) - 1 := by omega
                    have i1 : 1 ≤ (i : Int) := by omega
                    have it : ((i : Int) - 1).toNat = i - 1 := by omega
                    have il : (i : Int) - 1 < (n : Int) := by omega
                    go_wp2_with fail
                    go_quiet (fail)
                    clear iw it
                    go_wp2_with fail
                    have j0 : (0 : Int) ≤ (i : Int) := by omega
                    have j1 : (i : Int) ≤ (cap : Int) := by omega
                    have hP3 : (w.alloc (.cells #[.string l[i].code, .string l[i].name, .int .i64 l[i].kind, .string l[i].parent, .bool l[i].money] 74)).cell? ⟨w.heap.size, 3, none⟩ = some (.string l[i].parent) := by simp
                    go_region_held3 (fun w' => w'.cell? ⟨w.heap.size, 3, none⟩ = some (.string l[i].parent)) (first | exact hP3)
                      (first | (go_at_call 44; refine (refAt_k (l.take i) _ kk _ _ _ _ (by omega) (Rd.take (ha.below (by first | exact (bdrewN ((Below.refl _ _).alloc (Nat.le_refl _) _) _).drew | exact bdrewN ((Below.refl _ _).alloc (Nat.le_refl _) _) _)) (by omega)) HX.out).mono ?_; rintro e w4 ⟨rfl, rfl⟩))
                    go_wp2_with fail
                    go_quiet (fail)
                    go_wp2_with fail
                    go_ret
                    exact ⟨ret_int (HF.out).symm, bdrewN (bdrewN ((Below.refl _ _).alloc (Nat.le_refl _) _) _) _⟩
          · have HO := hide (ord_z (show i = 0 by omega) hil)
            have hd0 : decide (0 < i) = false := by simpa using hi0
            clear hi0
            cases h8 : l[i].parent.toList.isEmpty with
            | true =>
              have HF := hide (accR_p hk1 hk2 (HO.out) h8)
              clear H
              go_wp2_with fail
              go_quiet (fail)
              go_wp2_with fail
              go_ret
              exact ⟨ret_int (HF.out).symm, bdrewN ((Below.refl _ _).alloc (Nat.le_refl _) _) _⟩
            | false =>
              cases h9 : idxO (l.take i) l[i].parent with
              | none =>
                have HF := hide (accR_n hk1 hk2 (HO.out) h8 h9)
                have HX : Hid (idxI (l.take i) l[i].parent = -1) := by show idxI _ _ = _; simp [idxI, h9]
                clear h9 H
                go_wp2_with fail
                go_quiet (fail)
                go_wp2_with fail
                have j0 : (0 : Int) ≤ (i : Int) := by omega
                have j1 : (i : Int) ≤ (cap : Int) := by omega
                have hP3 : (w.alloc (.cells #[.string l[i].code, .string l[i].name, .int .i64 l[i].kind, .string l[i].parent, .bool l[i].money] 74)).cell? ⟨w.heap.size, 3, none⟩ = some (.string l[i].parent) := by simp
                go_region_held3 (fun w' => w'.cell? ⟨w.heap.size, 3, none⟩ = some (.string l[i].parent)) (first | exact hP3)
                  (first | (go_at_call 44; refine (refAt_k (l.take i) _ (-1) _ _ _ _ (by omega) (Rd.take (ha.below (by first | exact (bdrewN ((Below.refl _ _).alloc (Nat.le_refl _) _) _).drew | exact bdrewN ((Below.refl _ _).alloc (Nat.le_refl _) _) _)) (by omega)) HX.out).mono ?_; rintro e w4 ⟨rfl, rfl⟩))
                go_wp2_with fail
                go_ret
                exact ⟨ret_int (HF.out).symm, bdrewN ((Below.refl _ _).alloc (Nat.le_refl _) _) _⟩
              | some kk =>
                have hk' := idxO_lt h9
                rw [List.length_take] at hk'
                have hkk : kk < i := by omega
                have hq := (hcs kk (by omega)).2.2.1
                have hqi : (kk : Int) < (n : Int) := by omega
                have hq0 : 0 ≤ (kk : Int) := by omega
                have HS := accR_s hk1 hk2 (HO.out) h8 h9
                have hkd0 : (l.take i)[kk]? = some (l[kk]'(by omega)) := by rw [List.getElem?_take, if_pos hkk, List.getElem?_eq_getElem]
                rw [hkd0] at HS
                simp only [Option.map_some, Option.some.injEq] at HS
                have HX : Hid (idxI (l.take i) l[i].parent = (kk : Int)) := by show idxI _ _ = _; simp [idxI, h9]
                clear h9 hkd0 H
                by_cases hkd : (l[kk]'(by omega)).kind = l[i].kind
                · rw [if_pos hkd] at HS
                  have HF := hide HS
                  have kd1 : ((l[kk]'(by omega)).kind == l[i].kind) = true := by simp [hkd]
                  have kd2 : ((l[kk]'(by omega)).kind != l[i].kind) = false := by simp [hkd]
                  clear hkd HS
                  go_wp2_with fail
                  go_quiet (fail)
                  go_wp2_with fail
                  have j0 : (0 : Int) ≤ (i : Int) := by omega
                  have j1 : (i : Int) ≤ (cap : Int) := by omega
                  have hP3 : (w.alloc (.cells #[.string l[i].code, .string l[i].name, .int .i64 l[i].kind, .string l[i].parent, .bool l[i].money] 74)).cell? ⟨w.heap.size, 3, none⟩ = some (.string l[i].parent) := by simp
                  go_region_held3 (fun w' => w'.cell? ⟨w.heap.size, 3, none⟩ = some (.string l[i].parent)) (first | exact hP3)
                    (first | (go_at_call 44; refine (refAt_k (l.take i) _ kk _ _ _ _ (by omega) (Rd.take (ha.below (by first | exact (bdrewN ((Below.refl _ _).alloc (Nat.le_refl _) _) _).drew | exact bdrewN ((Below.refl _ _).alloc (Nat.le_refl _) _) _)) (by omega)) HX.out).mono ?_; rintro e w4 ⟨rfl, rfl⟩))
                  go_wp2_with fail
                  go_quiet (fail)
                  go_wp2_with fail
                  go_ret
                  exact ⟨ret_int (HF.out).symm, bdrewN (bdrewN ((Below.refl _ _).alloc (Nat.le_refl _) _) _) _⟩
                · rw [if_neg hkd] at HS
                  have HF := hide HS
                  have kd1 : ((l[kk]'(by omega)).kind == l[i].kind) = false := by simp [hkd]
                  have kd2 : ((l[kk]'(by omega)).kind != l[i].kind) = true := by simp [hkd]
                  clear hkd HS
                  go_wp2_with fail
                  go_quiet (fail)
                  go_wp2_with fail
                  have j0 : (0 : Int) ≤ (i : Int) := by omega
                  have j1 : (i : Int) ≤ (cap : Int) := by omega
                  have hP3 : (w.alloc (.cells #[.string l[i].code, .string l[i].name, .int .i64 l[i].kind, .string l[i].parent, .bool l[i].money] 74)).cell? ⟨w.heap.size, 3, none⟩ = some (.string l[i].parent) := by simp
                  go_region_held3 (fun w' => w'.cell? ⟨w.heap.size, 3, none⟩ = some (.string l[i].parent)) (first | exact hP3)
                    (first | (go_at_call 44; refine (refAt_k (l.take i) _ kk _ _ _ _ (by omega) (Rd.take (ha.below (by first | exact (bdrewN ((Below.refl _ _).alloc (Nat.le_refl _) _) _).drew | exact bdrewN ((Below.refl _ _).alloc (Nat.le_refl _) _) _)) (by omega)) HX.out).mono ?_; rintro e w4 ⟨rfl, rfl⟩))
                  go_wp2_with fail
                  go_quiet (fail)
                  go_wp2_with fail
                  go_ret
                  exact ⟨ret_int (HF.out).symm, bdrewN (bdrewN ((Below.refl _ _).alloc (Nat.le_refl _) _) _) _⟩
end Go.Proofs.YtfkhcdcmcplfoaaGreatDoor
