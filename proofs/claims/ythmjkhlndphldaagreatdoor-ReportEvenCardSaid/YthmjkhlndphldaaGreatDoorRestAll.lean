/- What the pairs' entries bring: each side of each pair is 0 behind them. Plain Lean, no program in sight. -/
import Derived.Test.YthmjkhlndphldaaGreatDoorPairG
import Derived.Test.YthmjkhlndphldaaGreatDoorLedAll
import Derived.Test.YthmjkhlndphldaaGreatDoorRefZ
import Derived.Test.YthmjkhlndphldaaGreatDoorPairY
import Derived.Test.YthmjkhlndphldaaGreatDoorPairH
namespace Go.Proofs.YthmjkhlndphldaaGreatDoor
open Go Go.RowKit
set_option linter.unusedVariables false

def coreBals (x : Core) : List Bal := x.2.2.2.map fun y => ⟨x.2.1, y.acc, y.cur, y.amt⟩
def balsOf (cs : List Core) : List Bal := cs.flatMap coreBals
theorem balsOf_append (a b : List Core) : balsOf (a ++ b) = balsOf a ++ balsOf b := by unfold balsOf; rw [List.flatMap_append]
theorem balsOf_one (r : ByteArray) (e per : Int) (a d cur : ByteArray) (x y : Int) (p : Pl) : totB (balsOf [(r, e, per, [⟨a, cur, x⟩, ⟨d, cur, y⟩])]) p = (if (⟨e, a, cur⟩ : Pl) = p then x else 0) + ((if (⟨e, d, cur⟩ : Pl) = p then y else 0) + 0) := rfl
/-- an entry of two lines of as much, one on each side -/
def TwoLine (x : Core) : Prop := ∃ a d cur n, x.2.2.2 = [⟨a, cur, -n⟩, ⟨d, cur, n⟩] ∧ -1000000000000000 ≤ n ∧ n ≤ 1000000000000000
section
variable {c : List Acc} {l : List Pr} {b : List Bal} {cur : ByteArray} {per : Int}
theorem far_in {m : Nat} (h : farE l b cur m = 0) (h2 : nOf l b cur m ≠ 0) : inB (-1000000000000000) 1000000000000000 (nOf l b cur m) = true := by
  unfold farE at h
  rw [if_neg h2] at h
  cases hi : inB (-1000000000000000) 1000000000000000 (nOf l b cur m) with
  | true => rfl
  | false => rw [hi] at h; simp at h
theorem coreOf_at {k j : Nat} (hk : k < l.length) (hj : j < 2) : coreOf l b cur per (2 * k + j) = if nSide b cur l[k] j = 0 then [] else [(pairRef k j, sdEnt l[k] j, per, [⟨sdAcc l[k] j, cur, -(nSide b cur l[k] j)⟩, ⟨l[k].diff, cur, nSide b cur l[k] j⟩])] := by
  unfold coreOf
  rw [(at_2 hj).1, (at_2 hj).2, List.getElem?_eq_getElem hk]
theorem cores_two {M : Nat} (hM : M ≤ 2 * l.length) (h : firstE (farE l b cur) M = 0) : ∀ x, x ∈ coresTo l b cur per M → TwoLine x := by
  induction M with
  | zero => intro x hx; simp [coresTo] at hx
  | succ m ih =>
    intro x hx
    have h0 := firstE_0 h
    rw [coresTo_succ] at hx
    rcases List.mem_append.1 hx with hx | hx
    · refine ih (by omega) ?_ x hx
      rcases Decidable.em (firstE (farE l b cur) m = 0) with e | e
      · exact e
      · rw [firstE, if_pos e] at h; exact absurd h e
    · obtain ⟨k, j, hj, rfl⟩ : ∃ k j, j < 2 ∧ m = 2 * k + j := ⟨m / 2, m % 2, by omega, by omega⟩
      have hk : k < l.length := by omega
      rw [coreOf_at hk hj] at hx
      by_cases hz : nSide b cur l[k] j = 0
      · rw [if_pos hz] at hx; cases hx
      · rw [if_neg hz] at hx
        obtain rfl := List.mem_singleton.1 hx
        have hn := far_in (h0 (2 * k + j) (by omega)) (by rw [nOf_at hk hj]; exact hz)
        rw [nOf_at hk hj] at hn
        simp [inB] at hn
        exact ⟨_, _, _, _, rfl, hn.1, hn.2⟩
theorem hit_true {p q : Pr} {j j' : Nat} (hj : j < 2) (hj' : j' < 2) (h1 : sdEnt q j' = sdEnt p j) (h2 : sdAcc q j' = sdAcc p j) : hitB p q = true := by
  have c1 : j = 0 ∨ j = 1 := by omega
  have c2 : j' = 0 ∨ j' = 1 := by omega
  unfold hitB
  rcases c1 with rfl | rfl <;> rcases c2 with rfl | rfl <;> simp [sdEnt, sdAcc] at h1 h2 <;> simp [h1, h2]
theorem pairE_ok {k : Nat} (hk : k < l.length) (h : pairE c l k = 0) : l[k].a ≠ l[k].b ∧ (l.take k).any (hitB l[k]) = false := by
  rw [pairE_at hk] at h
  by_cases h1 : inB 1 12 l[k].a = false
  · rw [if_pos h1] at h; cases h
  · rw [if_neg h1] at h
    by_cases h2 : inB 1 12 l[k].b = false
    · rw [if_pos h2] at h; cases h
    · rw [if_neg h2] at h
      by_cases h3 : l[k].a = l[k].b
      · rw [if_pos h3] at h; cases h
      · rw [if_neg h3] at h
        refine ⟨h3, ?_⟩
        by_cases h4 : legE c l[k] ≠ 0
        · rw [if_pos h4] at h; exact absurd h h4
        · rw [if_neg h4] at h
          by_cases h5 : ownB l[k] = true
          · rw [if_pos h5] at h; cases h
          · rw [if_neg h5] at h
            by_cases h6 : (l.take k).any (hitB l[k]) = true
            · rw [if_pos h6] at h; cases h
            · simpa using h6
theorem hit_take {i k : Nat} (hk : k < l.length) (hik : i < k) (h : (l.take k).any (hitB l[k]) = false) : hitB l[k] (l[i]'(by omega)) = false := by
  rw [List.any_eq_false] at h
  have := h (l[i]'(by omega)) (by
    rw [List.mem_take_iff_getElem]
    exact ⟨i, by omega, rfl⟩)
  simpa using this
theorem sides_apart (h : ∀ k, k < l.length → pairE c l k = 0) {i j k j' : Nat} (hi : i < l.length) (hj : j < 2) (hk : k < l.length) (hj' : j' < 2) (h1 : sdEnt l[k] j' = sdEnt l[i] j) (h2 : sdAcc l[k] j' = sdAcc l[i] j) : k = i ∧ j' = j := by
  rcases Nat.lt_trichotomy k i with hlt | rfl | hlt
  · have := hit_take hi hlt (pairE_ok hi (h i hi)).2
    rw [hit_true hj hj' h1 h2] at this; cases this
  · refine ⟨rfl, ?_⟩
    have hab := (pairE_ok hk (h k hk)).1
    have c1 : j = 0 ∨ j = 1 := by omega
    have c2 : j' = 0 ∨ j' = 1 := by omega
    rcases c1 with rfl | rfl <;> rcases c2 with rfl | rfl
    · rfl
    · exact absurd h1.symm hab
    · exact absurd h1 hab
    · rfl
  · have := hit_take hk hlt (pairE_ok hk (h k hk)).2
    rw [hit_true hj' hj h1.symm h2.symm] at this; cases this
/-- how much the entries bring to a side that is no pair's account for differences -/
theorem tot_cores (h : ∀ k, k < l.length → pairE c l k = 0) {i j : Nat} (hi : i < l.length) (hj : j < 2) (hd : ∀ (k : Nat) (hk : k < l.length), l[k].diff ≠ sdAcc l[i] j) :
    ∀ M, M ≤ 2 * l.length → totB (balsOf (coresTo l b cur per M)) ⟨sdEnt l[i] j, sdAcc l[i] j, cur⟩ = if 2 * i + j < M then -(nSide b cur l[i] j) else 0 := by
  intro M
  induction M with
  | zero => intro _; rw [if_neg (by omega)]; rfl
  | succ m ih =>
    intro hM
    rw [coresTo_succ, balsOf_append, totB_append, ih (by omega)]
    obtain ⟨k, j', hj', rfl⟩ : ∃ k j', j' < 2 ∧ m = 2 * k + j' := ⟨m / 2, m % 2, by omega, by omega⟩
    have hk : k < l.length := by omega
    rw [coreOf_at hk hj']
    by_cases hz : nSide b cur l[k] j' = 0
    · rw [if_pos hz]
      show _ + 0 = _
      by_cases he : k = i ∧ j' = j
      · obtain ⟨rfl, rfl⟩ := he
        rw [if_neg (by omega), if_pos (by omega), hz]; rfl
      · by_cases hlt : 2 * i + j < 2 * k + j'
        · rw [if_pos hlt, if_pos (by omega)]; omega
        · rw [if_neg hlt, if_neg (by omega)]; rfl
    · rw [if_neg hz]
      have hsec : (⟨sdEnt l[k] j', l[k].diff, cur⟩ : Pl) ≠ ⟨sdEnt l[i] j, sdAcc l[i] j, cur⟩ := fun e => by
        simp only [Pl.mk.injEq] at e
        exact hd k hk e.2.1
      by_cases he : k = i ∧ j' = j
      · obtain ⟨rfl, rfl⟩ := he
        rw [if_neg (by omega), if_pos (by omega)]
        rw [balsOf_one, if_pos rfl, if_neg hsec]
        omega
      · have hfst : (⟨sdEnt l[k] j', sdAcc l[k] j', cur⟩ : Pl) ≠ ⟨sdEnt l[i] j, sdAcc l[i] j, cur⟩ := fun e => by
          simp only [Pl.mk.injEq] at e
          exact he (sides_apart h hi hj hk hj' e.1 e.2.1)
        have e0 : totB (balsOf [(pairRef k j', sdEnt l[k] j', per, [⟨sdAcc l[k] j', cur, -(nSide b cur l[k] j')⟩, ⟨l[k].diff, cur, nSide b cur l[k] j'⟩])]) ⟨sdEnt l[i] j, sdAcc l[i] j, cur⟩ = 0 := by
          rw [balsOf_one, if_neg hfst, if_neg hsec]; rfl
        rw [e0]
        by_cases hlt : 2 * i + j < 2 * k + j'
        · rw [if_pos hlt, if_pos (by omega)]; omega
        · rw [if_neg hlt, if_neg (by omega)]; rfl
/-- behind them that side is 0 -/
theorem side_zero (h : ∀ k, k < l.length → pairE c l k = 0) (hb : balsE b = 0) {i j : Nat} (hi : i < l.length) (hj : j < 2) (hd : ∀ (k : Nat) (hk : k < l.length), l[k].diff ≠ sdAcc l[i] j) :
    getB (netB (b ++ netB (balsOf (coresTo l b cur per (2 * l.length))))) (sdEnt l[i] j) (sdAcc l[i] j) cur = 0 := by
  rw [getB_tot (netB_sort _), netB_tot, totB_append, netB_tot, tot_cores h hi hj hd _ (Nat.le_refl _), if_pos (by omega)]
  unfold nSide
  rw [getB_tot (bals_sort hb)]
  omega
end
theorem totB_bound {S : List Bal} {m : Int} (hm : 0 ≤ m) (h : ∀ x, x ∈ S → -m ≤ x.amt ∧ x.amt ≤ m) (p : Pl) : -(S.length * m) ≤ totB S p ∧ totB S p ≤ S.length * m := by
  induction S with
  | nil => simp [totB]
  | cons x S ih =>
    obtain ⟨h1, h2⟩ := ih (fun y hy => h y (by simp [hy]))
    obtain ⟨h3, h4⟩ := h x (by simp)
    rw [totB, List.length_cons, Int.natCast_add, Int.add_mul]
    split <;> omega
/-- balances in order, none 0, none too far, not too many, are right -/
theorem balsE_of {l : List Bal} (h200 : l.length ≤ 200) (hs : SSortB l) (hn : ∀ x, x ∈ l → x.amt ≠ 0) (hm : ∀ x, x ∈ l → mayB x.amt = true) : balsE l = 0 := by
  rw [balsE, if_neg (by omega)]
  have key : ∀ k, k ≤ l.length → firstE (balE l) k = 0 := by
    intro k
    induction k with
    | zero => intro _; rfl
    | succ k ih =>
      intro hk
      rw [firstE_succ (ih (by omega))]
      have hkl : k < l.length := by omega
      have ho : ordB l k = true := by
        cases k with
        | zero => rfl
        | succ j =>
          rw [ordB_s hkl]
          exact List.pairwise_iff_getElem.1 hs j (j + 1) (by omega) hkl (by omega)
      exact balE_4 ho hkl (hm _ (List.getElem_mem hkl)) (hn _ (List.getElem_mem hkl))
  exact key _ (Nat.le_refl _)
theorem merge_right {a b : List Bal} (h : mergeE a b = 0) : balsE (netB (a ++ b)) = 0 := by
  obtain ⟨_, _, h3, h4⟩ := mergeE_0 h
  exact balsE_of (Nat.le_trans (fullB_len _) h3) (netB_sort _) (fun x hx => netB_ne hx) h4
/-- of two lines of as much, one on each side, nothing is left of the currency -/
theorem canon_even (a d cur : ByteArray) (n : Int) : ∀ y, y ∈ canon (([⟨a, cur, -n⟩, ⟨d, cur, n⟩] : List Line).map blank) → y.amt = 0 := by
  intro y hy
  have e : canon (([⟨a, cur, -n⟩, ⟨d, cur, n⟩] : List Line).map blank) = [⟨⟨#[]⟩, cur, -n + n⟩] := by
    show ins (ins [] (blank ⟨a, cur, -n⟩)) (blank ⟨d, cur, n⟩) = _
    rw [ins, ins, if_neg (by rw [show (blank ⟨a, cur, -n⟩).key = (blank ⟨d, cur, n⟩).key from rfl, Key.irrefl]; decide), if_pos (show (blank ⟨a, cur, -n⟩).key = (blank ⟨d, cur, n⟩).key from rfl)]
    rfl
  rw [e] at hy
  obtain rfl := List.mem_singleton.1 hy
  show -n + n = 0
  omega
end Go.Proofs.YthmjkhlndphldaaGreatDoor

namespace Go.Proofs.YthmjkhlndphldaaGreatDoor
open Go Go.RowKit
set_option linter.unusedVariables false

theorem two_bnd {x : Core} (h : TwoLine x) : Bnd 1000000000000000 x.2.2.2 ∧ ∀ y, y ∈ canon (x.2.2.2.map blank) → y.amt = 0 := by
  obtain ⟨a, d, cur, n, e, h1, h2⟩ := h
  rw [e]
  refine ⟨fun y hy => ?_, canon_even a d cur n⟩
  rcases List.mem_cons.1 hy with rfl | hy
  · show -1000000000000000 ≤ -n ∧ -n ≤ 1000000000000000
    omega
  · obtain rfl := List.mem_singleton.1 hy
    exact ⟨h1, h2⟩

set_option maxHeartbeats 1000000 in
set_option maxRecDepth 100000 in
theorem zero_any (es : List Ent) (A : Option Addr) (n c : Nat) (w : World) (hn : n ≤ 9223372036854775807) (ha : Rd w 4 Ent.enc A n es) (h1 : ∀ e, e ∈ es → Rd w 3 lineEnc e.A e.n e.lines ∧ e.n ≤ 20) (h2 : ∀ e, e ∈ es → TwoLine (Ent.core e)) :
    Calls Tryz.prog 55 #[.slice A n c] w fun e w' => e = .returned (.bool true) ∧ Below w.heap.size w w' := by
  have Hn := hide ha.1
  go_enter Tryz.func55, Tryz.ntmps55
  go_wp2_with fail
  go_loopw [3] (fun iv wr => ∃ k : Nat, k ≤ n ∧ iv = .int .i64 k ∧ Below w.heap.size w wr) (fun iv _ => n - (intOf iv).toNat)
  case atStart => exact ⟨0, by omega, rfl, Below.refl _ _⟩
  case round =>
    obtain ⟨k, hk, rfl, hbr⟩ := hrel
    by_cases hlt : k < n
    · have hkl : k < es.length := by have := Hn.out; omega
      obtain ⟨b, off, rfl, hcs⟩ := (Rd.below ha hbr).2 (by omega)
      have q0 := hcs k 0 _ hkl rfl
      have q1 := hcs k 1 _ hkl rfl
      have q2 := hcs k 2 _ hkl rfl
      have q3 := hcs k 3 _ hkl rfl
      rw [Nat.add_zero] at q0
      clear hcs
      obtain ⟨hx1, hx2⟩ := h1 _ (List.getElem_mem hkl)
      obtain ⟨hb1, hz⟩ := two_bnd (h2 _ (List.getElem_mem hkl))
      have k0 : (0 : Int) ≤ (k : Int) := by omega
      have k1 : (k : Int) < (n : Int) := by omega
      have hb1 : Bnd 1000000000000000 es[k].lines := hb1
      have hz : ∀ y, y ∈ canon (es[k].lines.map blank) → y.amt = 0 := hz
      go_wp2_with fail
      refine (refSums_ok es[k].ref es[k].ent es[k].per es[k].lines _ _ _ _ (hx1.below hbr) hx2 hb1).mono ?_
      rintro e w4 ⟨v4, rfl, hown4, hb4⟩
      obtain ⟨VA, vc, rfl, hvc, hvm⟩ := hown4.form
      have hrd := hown4.rd lineEnc_ok
      generalize canon (es[k].lines.map blank) = cl at hown4 hvc hrd hz ⊢
      have hcl : cl.length ≤ 9223372036854775807 := by unfold maxLen at hvm; omega
      go_wp2_with fail
      go_loopw [5] (fun jv wi => ∃ j : Nat, j ≤ cl.length ∧ jv = .int .i64 j ∧ Below w4.heap.size w4 wi) (fun jv _ => cl.length - (intOf jv).toNat)
      case atStart => exact ⟨0, by omega, rfl, Below.refl _ _⟩
      case round =>
        obtain ⟨j, hj, rfl, hbi⟩ := hrel
        by_cases hjl : j < cl.length
        · obtain ⟨g, off2, rfl, hcs⟩ := (hrd.below hbi).2 (by omega)
          have s2 := hcs j 2 _ hjl rfl
          clear hcs
          have j0 : (0 : Int) ≤ (j : Int) := by omega
          have j1 : (j : Int) < (cl.length : Int) := by omega
          rw [hz _ (List.getElem_mem hjl)] at s2
          go_wp2_with fail
          go_roundw
          case rel => exact ⟨j + 1, by omega, by go_num, hbi⟩
          case measure => simp [intOf]; omega
        · go_wp2_with fail
          go_roundw
          case rel => exact ⟨k + 1, by omega, by go_num, hbr.trans ((hb4.trans (hbi.mono hb4.size)).mono hbr.size)⟩
          case measure => simp [intOf]; omega
    · go_wp2_with fail
      go_ret
      exact ⟨rfl, hbr⟩
end Go.Proofs.YthmjkhlndphldaaGreatDoor

namespace Go.Proofs.YthmjkhlndphldaaGreatDoor
open Go Go.RowKit
set_option linter.unusedVariables false

def eurB : ByteArray := ⟨#[69, 85, 82]⟩
def pf : List Pr := [⟨1, 2, ⟨#[49, 48]⟩, ⟨#[50, 48]⟩, ⟨#[52, 48]⟩⟩]
def bf : List Bal := [⟨1, ⟨#[49, 48]⟩, eurB, 8⟩, ⟨2, ⟨#[50, 48]⟩, eurB, -5⟩]
theorem fact_E : leftE pf bf eurB = 0 := by decide +kernel
theorem fact_L : leftTo pf bf eurB 1 = [3] := by decide +kernel
theorem pleft_fact (A B : Option Addr) (w : World) (ha : Rd w 5 prEnc A 1 pf) (hb : Rd w 4 balEnc B 2 bf) :
    Calls Tryz.prog 44 #[.slice A 1 1, .slice B 2 2, .string ⟨#[69, 85, 82]⟩] w fun e w' => ∃ g c, e = .returned (.tuple #[.slice (some ⟨g, 0, none⟩) 1 c, .nilIface]) ∧ w'.cell? ⟨g, 0, none⟩ = some (.int .i64 3) ∧ Below w.heap.size w w' := by
  refine (pleft_any pf A 1 1 bf B 2 2 eurB w (by omega) ha (by omega) hb (by decide)).mono ?_
  rintro e w' ⟨⟨h, _⟩ | ⟨_, v, rfl, hown⟩, hbl⟩
  · exact absurd fact_E h
  · rw [fact_L] at hown
    rcases hown.2 with ⟨_, h0⟩ | ⟨g, cap, cur, rfl, _⟩
    · cases h0
    · have h := (hown.cells intEnc2_ok 0 0 (.int .i64 3) (by simp) rfl).1
      exact ⟨g, cap, rfl, by simpa using h, hbl⟩

theorem coreBals_two {x : Core} (h : TwoLine x) : (coreBals x).length = 2 ∧ ∀ y, y ∈ coreBals x → -1000000000000000 ≤ y.amt ∧ y.amt ≤ 1000000000000000 := by
  obtain ⟨a, d, cur, n, e, h1, h2⟩ := h
  unfold coreBals
  rw [e]
  refine ⟨rfl, fun y hy => ?_⟩
  rcases List.mem_cons.1 hy with rfl | hy
  · show -1000000000000000 ≤ -n ∧ -n ≤ 1000000000000000
    omega
  · obtain rfl := List.mem_singleton.1 hy
    exact ⟨h1, h2⟩
/-- balances of the first i entries, and of k lines of the next -/
def balsAt (cs : List Core) (i k : Nat) : List Bal := balsOf (cs.take i) ++ (match cs[i]? with | some x => (coreBals x).take k | none => [])
theorem balsAt_0 (cs : List Core) (i : Nat) : balsAt cs i 0 = balsOf (cs.take i) := by
  unfold balsAt
  cases cs[i]? <;> simp
theorem balsAt_at {cs : List Core} {i k : Nat} (hi : i < cs.length) : balsAt cs i k = balsOf (cs.take i) ++ (coreBals cs[i]).take k := by
  unfold balsAt
  rw [List.getElem?_eq_getElem hi]
theorem balsAt_end {cs : List Core} {i k : Nat} (hi : i < cs.length) (hk : (coreBals cs[i]).length ≤ k) : balsAt cs i k = balsOf (cs.take (i + 1)) := by
  rw [balsAt_at hi, List.take_of_length_le hk, List.take_succ_eq_append_getElem hi, balsOf_append]
  congr 1
  simp [balsOf]
theorem balsAt_succ {cs : List Core} {i k : Nat} (hi : i < cs.length) (hk : k < (coreBals cs[i]).length) : balsAt cs i (k + 1) = balsAt cs i k ++ [(coreBals cs[i])[k]] := by
  rw [balsAt_at hi, balsAt_at hi, List.take_succ_eq_append_getElem hk, List.append_assoc]
theorem balsOf_bnd {cs : List Core} (h : ∀ x, x ∈ cs → TwoLine x) : (balsOf cs).length = 2 * cs.length ∧ ∀ y, y ∈ balsOf cs → -1000000000000000 ≤ y.amt ∧ y.amt ≤ 1000000000000000 := by
  induction cs with
  | nil => exact ⟨rfl, fun y hy => by simp [balsOf] at hy⟩
  | cons x cs ih =>
    obtain ⟨h1, h2⟩ := ih (fun y hy => h y (by simp [hy]))
    obtain ⟨h3, h4⟩ := coreBals_two (h x (by simp))
    have e : balsOf (x :: cs) = coreBals x ++ balsOf cs := rfl
    rw [e]
    refine ⟨by rw [List.length_append, h1, h3, List.length_cons]; omega, fun y hy => ?_⟩
    rcases List.mem_append.1 hy with hy | hy
    · exact h4 y hy
    · exact h2 y hy
theorem balsAt_bnd {cs : List Core} (h : ∀ x, x ∈ cs → TwoLine x) {i k : Nat} (hi : i < cs.length) : (balsAt cs i k).length ≤ 2 * cs.length ∧ ∀ y, y ∈ balsAt cs i k → -1000000000000000 ≤ y.amt ∧ y.amt ≤ 1000000000000000 := by
  obtain ⟨h1, h2⟩ := balsOf_bnd (cs := cs.take i) (fun x hx => h x (List.mem_of_mem_take hx))
  obtain ⟨h3, h4⟩ := coreBals_two (h _ (List.getElem_mem hi))
  rw [balsAt_at hi]
  rw [List.length_take] at h1
  refine ⟨by rw [List.length_append, List.length_take, h1, h3]; omega, fun y hy => ?_⟩
  rcases List.mem_append.1 hy with hy | hy
  · exact h2 y hy
  · exact h4 y (List.mem_of_mem_take hy)
/-- what is put together stays a number of 64 bits -/
theorem put_fits {S : List Bal} {x : Bal} (hl : S.length ≤ 100) (h : ∀ y, y ∈ S → -1000000000000000 ≤ y.amt ∧ y.amt ≤ 1000000000000000) (hx : -1000000000000000 ≤ x.amt ∧ x.amt ≤ 1000000000000000) :
    ∀ y, y ∈ canonB S → y.pl = x.pl → -9223372036854775808 ≤ y.amt + x.amt ∧ y.amt + x.amt ≤ 9223372036854775807 := by
  intro y hy e
  have h1 := totB_mem (canonB_sort S) hy
  rw [canonB_tot] at h1
  have h2 := totB_bound (by omega) h y.pl
  have h3 : (S.length : Int) * 1000000000000000 ≤ 100 * 1000000000000000 := Int.mul_le_mul_of_nonneg_right (by omega) (by omega)
  omega
theorem net_ok {S : List Bal} (hl : S.length ≤ 100) (h : ∀ y, y ∈ S → -1000000000000000 ≤ y.amt ∧ y.amt ≤ 1000000000000000) (hp : ∀ y, y ∈ S → PlFits y.pl) : BalsOk (netB S) := by
  intro y hy
  have hc : y ∈ canonB S := (List.mem_filter.1 hy).1
  obtain ⟨z, hz, e⟩ := (canonB_has S y.pl).1 ⟨y, hc, rfl⟩
  have h1 := totB_mem (canonB_sort S) hc
  rw [canonB_tot] at h1
  have h2 := totB_bound (by omega) h y.pl
  have h3 : (S.length : Int) * 1000000000000000 ≤ 100 * 1000000000000000 := Int.mul_le_mul_of_nonneg_right (by omega) (by omega)
  have h4 := hp z hz
  rw [e] at h4
  exact ⟨h4.1, h4.2.1, h4.2.2, by omega, by omega⟩
theorem cores_fit {l : List Pr} {b : List Bal} {cur : ByteArray} {per : Int} (hl : PrsOk l) (hc : cur.size ≤ 9223372036854775807) (M : Nat) : ∀ y, y ∈ balsOf (coresTo l b cur per M) → PlFits y.pl := by
  intro y hy
  unfold balsOf at hy
  obtain ⟨x, hx, hy⟩ := List.mem_flatMap.1 hy
  unfold coresTo at hx
  obtain ⟨m, _, hx⟩ := List.mem_flatMap.1 hx
  unfold coreOf at hx
  cases hm : l[m / 2]? with
  | none => rw [hm] at hx; cases hx
  | some p =>
    rw [hm] at hx
    have hp := hl p (List.mem_of_getElem? hm)
    dsimp only at hx
    split at hx
    · cases hx
    · obtain rfl := List.mem_singleton.1 hx
      have hE : -9223372036854775808 ≤ sdEnt p (m % 2) ∧ sdEnt p (m % 2) ≤ 9223372036854775807 := by
        unfold sdEnt
        split
        · exact hp.1
        · exact hp.2.1
      have hAc : (sdAcc p (m % 2)).size ≤ 9223372036854775807 := by
        unfold sdAcc
        split
        · exact hp.2.2.1
        · exact hp.2.2.2.1
      rcases List.mem_cons.1 hy with rfl | hy
      · exact ⟨hE, hAc, hc⟩
      · obtain rfl := List.mem_singleton.1 hy
        exact ⟨hE, hp.2.2.2.2, hc⟩
def dB (p q : Pr) : Bool := (q.diff.toList == p.one.toList) || (q.diff.toList == p.other.toList)
theorem dB_no {l : List Pr} {i j : Nat} (hi : i < l.length) (hj : j < 2) (h : l.any (dB l[i]) = false) : ∀ (k : Nat) (hk : k < l.length), l[k].diff ≠ sdAcc l[i] j := by
  intro k hk e
  rw [List.any_eq_false] at h
  have := h _ (List.getElem_mem hk)
  have c1 : j = 0 ∨ j = 1 := by omega
  unfold dB at this
  rcases c1 with rfl | rfl
  · exact this (by rw [show l[k].diff = l[i].one from e]; simp)
  · exact this (by rw [show l[k].diff = l[i].other from e]; simp)
theorem anyTo_succ {l : List Pr} {p : Pr} {k : Nat} (hk : k < l.length) : (l.take (k + 1)).any (dB p) = ((l.take k).any (dB p) || dB p l[k]) := by
  rw [List.take_succ_eq_append_getElem hk, List.any_append]; simp
end Go.Proofs.YthmjkhlndphldaaGreatDoor
