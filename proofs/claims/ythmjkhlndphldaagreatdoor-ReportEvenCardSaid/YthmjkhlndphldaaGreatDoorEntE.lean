/- entry.small, entry.Sums: what each returns. -/
import Derived.Test.YthmjkhlndphldaaGreatDoorEntD
import Derived.Test.YthmjkhlndphldaaGreatDoorChartX
namespace Go.Proofs.YthmjkhlndphldaaGreatDoor
open Go Go.RowKit
set_option linter.unusedVariables false

def farB (x : Line) : Bool := !inB (-1000000000000000) 1000000000000000 x.amt
def notZ (x : Line) : Bool := x.amt != 0

theorem asks_far : Asks 120 farB := by
  intro x w
  unfold farB
  go_enter Tryz.func120, Tryz.ntmps120
  go_wp2_with fail
  refine (amount_any x.amt _).mono ?_
  rintro e w1 ⟨rfl, rfl⟩
  go_wp2_with fail
  go_ret
  exact ⟨rfl, (Below.refl _ _).alloc (Nat.le_refl _) _⟩
theorem asks_notZ : Asks 75 notZ := by
  intro x w
  unfold notZ
  go_enter Tryz.func75, Tryz.ntmps75
  go_wp2_with fail
  go_ret
  exact ⟨rfl, (Below.refl _ _).alloc (Nat.le_refl _) _⟩

/-- what is wrong with lines that are added up -/
def smallE (l : List Line) : Int := if 20 < l.length then 4 else if l.any farB = true then 1 else 0
theorem small_any (l : List Line) (A : Option Addr) (n cap : Nat) (w : World) (hl : n ≤ 9223372036854775807) (ha : Rd w 3 lineEnc A n l) :
    Calls Tryz.prog 76 #[.slice A n cap] w fun e w' => e = .returned (errV (smallE l)) ∧ Below w.heap.size w w' := by
  have hn : l.length = n := ha.1
  have eg : ∀ args w, (callFunc 120 args).run Tryz.prog w = .ok (.enter 120 args) w := enters_of Tryz.func120 (by kernel_rfl) rfl
  by_cases h20 : 20 < n
  · have hf : smallE l = 4 := by rw [smallE, if_pos (by omega)]
    rw [hf]
    have h20' : (20 : Int) < (n : Int) := by omega
    clear hf h20 hn
    go_enter Tryz.func76, Tryz.ntmps76
    go_wp2_with fail
    go_ret
    exact ⟨rfl, Below.refl _ _⟩
  · have h20' : ¬ (20 : Int) < (n : Int) := by omega
    cases h2 : l.any farB with
    | true =>
      have hf : smallE l = 1 := by rw [smallE, if_neg (by omega), if_pos h2]
      rw [hf]
      have H2 := hide h2
      clear hf h20 hn h2
      go_enter Tryz.func76, Tryz.ntmps76
      go_wp2_with fail
      refine (containsFunc_line l _ farB asks_far eg _ _ _ _ hl ha).mono ?_
      rintro e w1 ⟨rfl, hb1⟩
      rw [H2.out]
      go_wp2_with fail
      go_ret
      exact ⟨rfl, hb1⟩
    | false =>
      have hf : smallE l = 0 := by rw [smallE, if_neg (by omega), if_neg (by rw [h2]; decide)]
      rw [hf]
      have H2 := hide h2
      clear hf h20 hn h2
      go_enter Tryz.func76, Tryz.ntmps76
      go_wp2_with fail
      refine (containsFunc_line l _ farB asks_far eg _ _ _ _ hl ha).mono ?_
      rintro e w1 ⟨rfl, hb1⟩
      rw [H2.out]
      go_wp2_with fail
      go_ret
      exact ⟨rfl, hb1⟩
theorem small_ok (l : List Line) (A : Option Addr) (n cap : Nat) (w : World) (hl : n ≤ 9223372036854775807) (ha : Rd w 3 lineEnc A n l) (he : smallE l = 0) :
    Calls Tryz.prog 76 #[.slice A n cap] w fun e w' => e = .returned .nilIface ∧ Below w.heap.size w w' := by
  rw [← errV_0 he]; exact small_any l A n cap w hl ha
theorem small_bad (l : List Line) (A : Option Addr) (n cap : Nat) (w : World) (hl : n ≤ 9223372036854775807) (ha : Rd w 3 lineEnc A n l) (he : smallE l ≠ 0) :
    Calls Tryz.prog 76 #[.slice A n cap] w fun e w' => e = .returned (.iface 108 (.int .i64 (smallE l))) ∧ Below w.heap.size w w' := by
  rw [← errV_n he]; exact small_any l A n cap w hl ha
theorem smallE_ok {l : List Line} (h : smallE l = 0) : l.length ≤ 20 ∧ Bnd 1000000000000000 l := by
  unfold smallE at h
  by_cases h20 : 20 < l.length
  · rw [if_pos h20] at h; cases h
  · rw [if_neg h20] at h
    refine ⟨by omega, fun x hx => ?_⟩
    cases h2 : l.any farB with
    | true => rw [if_pos h2] at h; cases h
    | false =>
      rw [List.any_eq_false] at h2
      have := h2 x hx
      simp only [farB, inB, Bool.not_eq_true, Bool.not_eq_false', Bool.and_eq_true, decide_eq_true_eq] at this
      exact this
theorem smallE_of {l : List Line} (h : l.length ≤ 20) (hb : Bnd 1000000000000000 l) : smallE l = 0 := by
  rw [smallE, if_neg (by omega), if_neg ?_]
  rw [Bool.not_eq_true, List.any_eq_false]
  intro x hx
  have := hb x hx
  simp [farB, inB, this]

/-- a line without its account -/
def blank (x : Line) : Line := ⟨⟨#[]⟩, x.cur, x.amt⟩
def blankTo (l : List Line) (k : Nat) : List Line := (l.take k).map blank ++ l.drop k
theorem blankTo_len (l : List Line) (k : Nat) : (blankTo l k).length = l.length := by
  unfold blankTo
  rw [List.length_append, List.length_map, List.length_take, List.length_drop]; omega
theorem blankTo_get (l : List Line) (k : Nat) (h : k < l.length) : (blankTo l k)[k]'(by rw [blankTo_len]; exact h) = l[k] := by
  unfold blankTo
  rw [List.getElem_append_right (by simp; omega)]
  simp [Nat.min_eq_left (Nat.le_of_lt h)]
theorem blankTo_succ (l : List Line) (k : Nat) (h : k < l.length) : blankTo l (k + 1) = (blankTo l k).set k (blank l[k]) := by
  unfold blankTo
  have hk : ((l.take k).map blank).length = k := by simp; omega
  rw [List.set_append_right _ _ (by omega), hk, Nat.sub_self, List.drop_eq_getElem_cons h, List.set_cons_zero, List.take_succ_eq_append_getElem h, List.map_append, List.append_assoc]
  rfl
theorem blankTo_all (l : List Line) : blankTo l l.length = l.map blank := by simp [blankTo]

def entV (ref : ByteArray) (ent per : Int) (A : Option Addr) (n c : Nat) : Value := .agg #[.string ref, .int .i64 ent, .int .i64 per, .slice A n c]
theorem sums_bad (ref : ByteArray) (ent per : Int) (l : List Line) (A : Option Addr) (n cap : Nat) (w : World) (hl : n ≤ 9223372036854775807) (ha : Rd w 3 lineEnc A n l) (he : smallE l ≠ 0) :
    Calls Tryz.prog 15 #[.agg #[.string ref, .int .i64 ent, .int .i64 per, .slice A n cap]] w fun e w' => e = .returned (.tuple #[.slice none 0 0, .iface 108 (.int .i64 (smallE l))]) ∧ Below w.heap.size w w' := by
  have HE := hide he
  clear he
  go_enter Tryz.func15, Tryz.ntmps15
  go_wp2_with fail
  refine (small_bad l _ _ _ _ hl (Rd.below ha ((Below.refl _ _).alloc (Nat.le_refl _) _)) HE.out).mono ?_
  rintro e w1 ⟨rfl, hb1⟩
  go_wp2_with fail
  go_ret2
  exact ⟨rfl, bof_alloc hb1⟩

/-- handed back: a slice of the call's own, and no error -/
def GivesOwn (B : Nat) (l : List Line) (w : World) (e : Ending) (w' : World) : Prop :=
  ∃ v, e = .returned (.tuple #[v, .nilIface]) ∧ Own w' B 35 3 lineEnc v l ∧ Below B w w'

theorem Own.addr {α : Type} {w : World} {B e sz : Nat} {enc : α → List Value} {A : Option Addr} {n c : Nat} {l : List α} (h : Own w B e sz enc (.slice A n c) l) (hl : 0 < l.length) : ∃ g, A = some ⟨g, 0, none⟩ := by
  rcases h.2 with ⟨hv, h0⟩ | ⟨g', cap, cur, hv, _⟩
  · omega
  · injection hv with e1; exact ⟨g', e1⟩

theorem blank_bnd {l : List Line} {m : Int} (h : Bnd m l) : Bnd m (l.map blank) := by
  intro x hx
  obtain ⟨y, hy, rfl⟩ := List.mem_map.1 hx
  exact h y hy

set_option maxRecDepth 100000 in
theorem sums_ok (ref : ByteArray) (ent per : Int) (l : List Line) (A : Option Addr) (n cap : Nat) (w : World) (ha : Rd w 3 lineEnc A n l) (hA : A = none → cap = 0) (he : smallE l = 0) :
    Calls Tryz.prog 15 #[.agg #[.string ref, .int .i64 ent, .int .i64 per, .slice A n cap]] w (GivesOwn w.heap.size (canon (l.map blank)) w) := by
  obtain ⟨hl, hbn⟩ := smallE_ok he
  have hn : l.length = n := ha.1
  have HE := hide he
  have Hn := hide hn
  have hn20 : n ≤ 20 := by omega
  clear he hn
  go_enter Tryz.func15, Tryz.ntmps15
  go_wp2_with fail
  refine (small_ok l _ _ _ _ (by omega) (Rd.below ha ((Below.refl _ _).alloc (Nat.le_refl _) _)) HE.out).mono ?_
  rintro e w1 ⟨rfl, hb1⟩
  have c3 : w1.cell? ⟨w.heap.size, 3, none⟩ = some (.slice A n cap) := below_cell hb1 (by simp) (by simp)
  have hb1 := bof_alloc hb1
  go_wp2_with fail
  refine (clone_lines l A n cap _ (Rd.below ha hb1) hn20 hA).mono ?_
  rintro e w2 ⟨v, rfl, hown2, hb2⟩
  have hb2 := bthen hb1 (Nat.le_refl _) hb2
  obtain ⟨VA, vc, rfl, hvc, hvm⟩ := hown2.form
  go_wp2_with fail
  go_loopw [18] (fun iv wr => ∃ k : Nat, k ≤ l.length ∧ iv = .int .i64 k ∧ Own wr w1.heap.size 35 3 lineEnc (.slice VA l.length vc) (blankTo l k) ∧ Below w.heap.size w wr) (fun iv _ => l.length - (intOf iv).toNat)
  case atStart => exact ⟨0, by omega, rfl, hown2, hb2⟩
  case round =>
    obtain ⟨k, hk, rfl, hown, hbr⟩ := hrel
    by_cases hlt : k < l.length
    · obtain ⟨gu, rfl⟩ := hown.addr (by rw [blankTo_len]; omega)
      have hgt := blankTo_get l k hlt
      have c0 := hown.cells lineEnc_ok k 0 (.string l[k].acc) (by rw [blankTo_len]; exact hlt) (by rw [hgt]; rfl)
      rw [Nat.add_zero] at c0
      obtain ⟨c0, f0⟩ := c0
      have k0 : (0 : Int) ≤ (k : Int) := by omega
      have k1 : (k : Int) < (l.length : Int) := by omega
      have hst := Own.store lineEnc_ok hown k 0 (blank l[k]) (.string ⟨#[]⟩) (by rw [blankTo_len]; exact hlt) (by omega) (by rw [hgt]; rfl)
      rw [Nat.add_zero, ← blankTo_succ l k hlt] at hst
      have HS := hide hst
      have hgw : w1.heap.size ≤ gu := (hown.block gu rfl).1
      clear hgt hst
      go_wp2_with fail
      go_roundw
      case rel => exact ⟨k + 1, by omega, by go_num, HS.out, hbr.setCell (Nat.le_trans hb1.size hgw) _⟩
      case measure => simp [intOf]; omega
    · have hkl : k = l.length := by omega
      subst hkl
      rw [blankTo_all] at hown
      have hlb : (l.map blank).length = l.length := List.length_map _
      go_wp2_with fail
      refine (grouped_any (l.map blank) VA l.length vc _ (by have := hown.rd lineEnc_ok; exact this) (by omega) (fun h => ?_) (blank_bnd hbn)).mono ?_
      · subst h
        rcases hown.2 with ⟨hv, _⟩ | ⟨g', c', cur, hv, _⟩
        · injection hv
        · cases hv
      rintro e w3 ⟨v, rfl, hown3, hb3⟩
      go_wp2_with fail
      go_ret2
      exact ⟨v, rfl, Own.wider hown3 hbr.size, bthen hbr (Nat.le_refl _) hb3⟩
end Go.Proofs.YthmjkhlndphldaaGreatDoor
