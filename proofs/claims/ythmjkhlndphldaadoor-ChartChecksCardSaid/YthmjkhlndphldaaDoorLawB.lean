/- The statement ChartChecks, walked: it returns true. -/
import Derived.Test.YthmjkhlndphldaaDoorLawA
import Derived.Test.YthmjkhlndphldaaDoorRefC
namespace Go.Proofs.YthmjkhlndphldaaDoor
open Go Go.RowKit
set_option linter.unusedVariables false

theorem texts_none (w : World) : Calls Tryd.prog 21 #[.slice none 0 0, .slice none 0 0] w fun e w' => e = .returned (.bool true) ∧ Below w.heap.size w w' :=
  texts_same [] none none 0 0 0 w (by omega) ⟨rfl, fun h => absurd h (by omega)⟩ ⟨rfl, fun h => absurd h (by omega)⟩

/-- an account lies at a block's head -/
def AccAt (w : World) (g : Nat) (a : Acc) : Prop := w.cell? ⟨g, 0, none⟩ = some (.string a.code) ∧ w.cell? ⟨g, 1, none⟩ = some (.string a.name) ∧ w.cell? ⟨g, 2, none⟩ = some (.int .i64 a.kind) ∧ w.cell? ⟨g, 3, none⟩ = some (.string a.parent) ∧ w.cell? ⟨g, 4, none⟩ = some (.bool a.money)
theorem AccAt.below {w w' : World} {g : Nat} {a : Acc} (h : AccAt w g a) (hb : Below w.heap.size w w') : AccAt w' g a := by
  obtain ⟨h0, h1, h2, h3, h4⟩ := h
  have hg := World.block_lt_of_cell? _ _ h0
  exact ⟨below_cell hb hg h0, below_cell hb hg h1, below_cell hb hg h2, below_cell hb hg h3, below_cell hb hg h4⟩
theorem AccAt.new (w : World) (a : Acc) : AccAt (w.alloc (.cells #[.string a.code, .string a.name, .int .i64 a.kind, .string a.parent, .bool a.money] 29)) w.heap.size a := by
  unfold AccAt
  simp

/-- daysame.Error of an error that is no nil -/
theorem error_is (e : Int) (w : World) (hg : ErrTy w) (h0 : 0 ≤ e) (h1 : e ≤ 12) (hn : e ≠ 0) : Calls Tryd.prog 15 #[.iface 79 (.int .i64 e), .int .i64 e] w fun ev w' => ev = .returned (.bool true) ∧ Below w.heap.size w w' := by
  have := error_any e e w hg h0 h1
  rw [errV_n hn, beq_self_eq_true] at this
  exact this
set_option maxHeartbeats 4000000 in
set_option maxRecDepth 100000 in
theorem checks_bad (l : List Acc) (c : ByteArray) (A : Option Addr) (n cap : Nat) (w : World) (hl : n ≤ 9223372036854775807) (hcap : n ≤ cap) (ha : Accs w A n l) (hok : AccOk l) (hg : ErrTy w) (he : chartE l ≠ 0) (h0 : 0 ≤ chartE l) (h1 : chartE l ≤ 12) :
    Calls Tryd.prog 4 #[.slice A n cap, .string c] w fun e w' => e = .returned (.bool true) ∧ Below w.heap.size w w' := by
  have HE := hide he
  have h2 : (chartE l == 0) = false := by simpa using he
  clear he
  go_enter Tryd.func4, Tryd.ntmps4
  go_wp2_with fail
  refine (refChart_any l _ _ _ _ hl hcap ha hok).mono ?_
  rintro e w1 ⟨rfl, hb1⟩
  go_wp2_with fail
  refine (check_bad l _ _ _ _ hl hcap (ha.below hb1) hok HE.out).mono ?_
  rintro e w2 ⟨rfl, hb2⟩
  have hb2 := bthen hb1 (Nat.le_refl _) hb2
  go_wp2_with fail
  refine (error_is _ _ (hg.below hb2) h0 h1 HE.out).mono ?_
  rintro e w3 ⟨rfl, hb3⟩
  have hb3 := bthen hb2 (Nat.le_refl _) hb3
  go_wp2_with fail
  refine (print_bad l _ _ _ _ hl hcap ((ha.below hb3).alloc _) hok HE.out).mono ?_
  rintro e w4 ⟨rfl, hb4'⟩
  have hf4 : AccAt w4 w3.heap.size ⟨⟨#[]⟩, ⟨#[]⟩, 0, ⟨#[]⟩, false⟩ := (AccAt.new w3 _).below hb4'
  have hb4 := bthen hb3 (Nat.le_refl _) (bof_alloc hb4')
  have hc4 : w3.heap.size < w4.heap.size := Nat.lt_of_lt_of_le (by simp) hb4'.size
  clear hb4'
  go_wp2_with fail
  refine (error_is _ _ (hg.below hb4) h0 h1 HE.out).mono ?_
  rintro e w5 ⟨rfl, hb5⟩
  have hf5 := hf4.below hb5
  have hb5 := bthen hb4 (Nat.le_refl _) hb5
  go_wp2_with fail
  refine (leaves_bad l _ _ _ _ hl hcap (ha.below hb5) hok HE.out).mono ?_
  rintro e w6 ⟨rfl, hb6⟩
  have hf6 := hf5.below hb6
  have hb6 := bthen hb5 (Nat.le_refl _) hb6
  go_wp2_with fail
  refine (error_is _ _ (hg.below hb6) h0 h1 HE.out).mono ?_
  rintro e w7 ⟨rfl, hb7⟩
  have hf7 := hf6.below hb7
  have hb7 := bthen hb6 (Nat.le_refl _) hb7
  go_wp2_with fail
  refine (find_bad l c _ _ _ _ hl hcap (ha.below hb7) hok HE.out).mono ?_
  rintro e w8 ⟨rfl, hb8⟩
  unfold noAcc
  have hf8 := hf7.below hb8
  have hb8 := bthen hb7 (Nat.le_refl _) hb8
  go_wp2_with fail
  refine (error_is _ _ ((hg.below hb8).below ((Below.refl _ _).alloc (Nat.le_refl _) _)) h0 h1 HE.out).mono ?_
  rintro e w9 ⟨rfl, hb9'⟩
  have hx9 : AccAt w9 w8.heap.size ⟨⟨#[]⟩, ⟨#[]⟩, 0, ⟨#[]⟩, false⟩ := (AccAt.new w8 _).below hb9'
  have hf9 := hf8.below (bof_alloc hb9')
  have hb9 := bthen hb8 (Nat.le_refl _) (bof_alloc hb9')
  clear hb9'
  go_wp2_with fail
  refine (under_bad l c _ _ _ _ hl hcap (ha.below hb9) hok HE.out).mono ?_
  rintro e w10 ⟨rfl, hb10⟩
  have hf10 := hf9.below hb10
  have hx10 := hx9.below hb10
  have hb10 := bthen hb9 (Nat.le_refl _) hb10
  go_wp2_with fail
  refine (error_is _ _ (hg.below hb10) h0 h1 HE.out).mono ?_
  rintro e w11 ⟨rfl, hb11⟩
  have hf11 := hf10.below hb11
  have hx11 := hx10.below hb11
  have hb11 := bthen hb10 (Nat.le_refl _) hb11
  go_wp2_with fail
  refine (texts_none _).mono ?_
  rintro e w12 ⟨rfl, hb12⟩
  have hf12 := hf11.below hb12
  have hx12 := hx11.below hb12
  have hb12 := bthen hb11 (Nat.le_refl _) hb12
  go_wp2_with fail
  refine (texts_none _).mono ?_
  rintro e w13 ⟨rfl, hb13⟩
  have hf13 := hf12.below hb13
  have hx13 := hx12.below hb13
  have hb13 := bthen hb12 (Nat.le_refl _) hb13
  obtain ⟨f0, f1, f2, f3, f4⟩ := hf13
  obtain ⟨x0, x1, x2, x3, x4⟩ := hx13
  go_wp2_with fail
  go_ret
  exact ⟨rfl, hb13⟩
end Go.Proofs.YthmjkhlndphldaaDoor
