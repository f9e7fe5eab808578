/- A journal is even: plain facts. -/
import Derived.Test.YthmjkhlndphldaaGreatDoorTurns
import Derived.Test.YthmjkhlndphldaaGreatDoorErrAll
import Derived.Deep.QuietTactic
import Derived.BigQuiet
namespace Go.Proofs.YthmjkhlndphldaaGreatDoor
open Go Go.RowKit
set_option linter.unusedVariables false

/-- all debits of a currency -/
def posOf (cur : ByteArray) : List Line → Int
  | [] => 0
  | x :: l => (if x.cur = cur ∧ 0 < x.amt then x.amt else 0) + posOf cur l
/-- all credits of a currency -/
def negOf (cur : ByteArray) : List Line → Int
  | [] => 0
  | x :: l => (if x.cur = cur ∧ ¬ 0 < x.amt then -x.amt else 0) + negOf cur l
theorem pos_neg (cur : ByteArray) (l : List Line) : posOf cur l - negOf cur l = tot (l.map blank) ⟨⟨#[]⟩, cur⟩ := by
  induction l with
  | nil => rfl
  | cons x l ih =>
    have hk : (blank x).key = (⟨⟨#[]⟩, cur⟩ : Key) ↔ x.cur = cur := by
      unfold blank Line.key
      simp
    have ha : (blank x).amt = x.amt := rfl
    rw [List.map_cons, tot, posOf, negOf, ← ih, ha]
    by_cases h : x.cur = cur
    · rw [if_pos (hk.2 h)]
      by_cases h0 : 0 < x.amt
      · rw [if_pos ⟨h, h0⟩, if_neg (fun e => e.2 h0)]; omega
      · rw [if_neg (fun e => h0 e.2), if_pos ⟨h, h0⟩]; omega
    · rw [if_neg (fun e => h (hk.1 e)), if_neg (fun e => h e.1), if_neg (fun e => h e.1)]; omega
theorem posOf_range (cur : ByteArray) {l : List Line} (h : Bnd 1000000000000000 l) : 0 ≤ posOf cur l ∧ posOf cur l ≤ 1000000000000000 * (l.length : Int) := by
  induction l with
  | nil => simp [posOf]
  | cons x l ih =>
    have h1 := ih fun y hy => h y (List.mem_cons_of_mem _ hy)
    have h2 := h x (by simp)
    rw [posOf, List.length_cons]
    split <;> omega

theorem sum_map_add (f g : Acc → Int) (c : List Acc) : (c.map fun a => f a + g a).sum = (c.map f).sum + (c.map g).sum := by
  induction c with
  | nil => rfl
  | cons a c ih => simp only [List.map_cons, List.sum_cons, ih]; omega
theorem sum_map_zero (c : List Acc) : (c.map fun _ => (0 : Int)).sum = 0 := by
  induction c with
  | nil => rfl
  | cons a c ih => simp only [List.map_cons, List.sum_cons, ih]; rfl
/-- no code is there twice -/
def Uniq (c : List Acc) : Prop := c.Pairwise fun a b => a.code ≠ b.code
theorem hit_none {c : List Acc} {s : ByteArray} (v : Int) (h : ∀ a, a ∈ c → a.code ≠ s) : (c.map fun a => if a.code = s then v else 0).sum = 0 := by
  induction c with
  | nil => rfl
  | cons a c ih =>
    rw [List.map_cons, List.sum_cons, ih (fun b hb => h b (List.mem_cons_of_mem _ hb)), if_neg (h a (by simp))]; rfl
theorem hit_one {s : ByteArray} (v : Int) : ∀ c : List Acc, Uniq c → (∃ a, a ∈ c ∧ a.code = s) → (c.map fun a => if a.code = s then v else 0).sum = v := by
  intro c
  induction c with
  | nil => rintro _ ⟨a, ha, _⟩; cases ha
  | cons a c ih =>
    intro hu hm
    obtain ⟨h1, h2⟩ := List.pairwise_cons.1 hu
    rw [List.map_cons, List.sum_cons]
    by_cases e : a.code = s
    · rw [if_pos e, hit_none v (fun b hb e2 => h1 b hb (e.trans e2.symm))]; omega
    · obtain ⟨b, hb, e2⟩ := hm
      rcases List.mem_cons.1 hb with rfl | hb
      · exact absurd e2 e
      · rw [if_neg e, ih h2 ⟨b, hb, e2⟩]; omega

/-- what was turned over on the debit side, account by account; and on the credit side -/
def turnD (c : List Acc) (cur : ByteArray) (L : List Line) : List Int := c.map fun a => (debs a.code cur L).sum
def turnC (c : List Acc) (cur : ByteArray) (L : List Line) : List Int := c.map fun a => (creds a.code cur L).sum
theorem ofAC_iff (a c : ByteArray) (x : Line) : ofAC a c x = true ↔ x.acc = a ∧ x.cur = c := by
  unfold ofAC
  rw [Bool.and_eq_true, decide_eq_true_eq, decide_eq_true_eq]
theorem turnD_sum {c : List Acc} (hu : Uniq c) (cur : ByteArray) : ∀ L : List Line, (∀ x, x ∈ L → ∃ a, a ∈ c ∧ a.code = x.acc) → (turnD c cur L).sum = posOf cur L := by
  intro L
  induction L with
  | nil => intro _; exact sum_map_zero c
  | cons x L ih =>
    intro h
    have e : turnD c cur (x :: L) = c.map fun a => (if a.code = x.acc then (if x.cur = cur ∧ 0 < x.amt then x.amt else 0) else 0) + (debs a.code cur L).sum := by
      unfold turnD
      refine List.map_congr_left fun a _ => ?_
      rw [debs_cons]
      by_cases e1 : a.code = x.acc
      · rw [if_pos e1]
        by_cases e2 : x.cur = cur ∧ 0 < x.amt
        · rw [if_pos e2, if_pos ⟨(ofAC_iff _ _ _).2 ⟨e1.symm, e2.1⟩, e2.2⟩]
        · rw [if_neg e2, if_neg (fun e3 => e2 ⟨((ofAC_iff _ _ _).1 e3.1).2, e3.2⟩)]
      · rw [if_neg e1, if_neg (fun e3 => e1 ((ofAC_iff _ _ _).1 e3.1).1.symm)]
    rw [e, sum_map_add, hit_one _ c hu (h x (by simp)), posOf]
    have := ih fun y hy => h y (List.mem_cons_of_mem _ hy)
    unfold turnD at this
    rw [this]
theorem turnC_sum {c : List Acc} (hu : Uniq c) (cur : ByteArray) : ∀ L : List Line, (∀ x, x ∈ L → ∃ a, a ∈ c ∧ a.code = x.acc) → (turnC c cur L).sum = negOf cur L := by
  intro L
  induction L with
  | nil => intro _; exact sum_map_zero c
  | cons x L ih =>
    intro h
    have e : turnC c cur (x :: L) = c.map fun a => (if a.code = x.acc then (if x.cur = cur ∧ ¬ 0 < x.amt then -x.amt else 0) else 0) + (creds a.code cur L).sum := by
      unfold turnC
      refine List.map_congr_left fun a _ => ?_
      rw [creds_cons]
      by_cases e1 : a.code = x.acc
      · rw [if_pos e1]
        by_cases e2 : x.cur = cur ∧ ¬ 0 < x.amt
        · rw [if_pos e2, if_pos ⟨(ofAC_iff _ _ _).2 ⟨e1.symm, e2.1⟩, e2.2⟩]
        · rw [if_neg e2, if_neg (fun e3 => e2 ⟨((ofAC_iff _ _ _).1 e3.1).2, e3.2⟩)]
      · rw [if_neg e1, if_neg (fun e3 => e1 ((ofAC_iff _ _ _).1 e3.1).1.symm)]
    rw [e, sum_map_add, hit_one _ c hu (h x (by simp)), negOf]
    have := ih fun y hy => h y (List.mem_cons_of_mem _ hy)
    unfold turnC at this
    rw [this]

theorem ch_uniq {c : List Acc} (h : chartE c = 0) : Uniq c := by
  unfold Uniq
  rw [List.pairwise_iff_getElem]
  intro i j hi hj hij e
  have := ch_inj h i j hi hj (by rw [e])
  omega
theorem leaf_in {c : List Acc} {s : ByteArray} (h : leafE c s = 0) : ∃ a, a ∈ c ∧ a.code = s := by
  by_cases h1 : idxI c s < 0
  · rw [leafE_6 h1] at h; cases h
  · unfold idxI at h1
    cases ho : idxO c s with
    | none => rw [ho] at h1; simp at h1
    | some k =>
      unfold idxO at ho
      rw [List.findIdx?_eq_some_iff_getElem] at ho
      obtain ⟨hk, e, _⟩ := ho
      exact ⟨_, List.getElem_mem hk, toList_inj (by simpa using e)⟩

/-- all entries that are there are right -/
def Rights (c : List Acc) (es : List Ent) : Prop := ∀ e, e ∈ es → Right c e.ref e.ent e.per e.lines
section
variable {c : List Acc} {es : List Ent}
theorem Rights.bnd (h : Rights c es) : ∀ e, e ∈ es → Bnd 1000000000000000 e.lines := fun e he => (h e he).bnd
theorem Rights.push {E E' : Ent} (h : Rights c es) (hp : postE c es E.ref E.ent E.per E.lines = 0) (h1 : E'.ref = E.ref) (h2 : E'.ent = E.ent) (h3 : E'.per = E.per) (h4 : E'.lines = E.lines) : Rights c (es ++ [E']) := by
  intro x hx
  rcases List.mem_append.1 hx with hx | hx
  · exact h x hx
  · have hx' : x = E' := by simpa using hx
    subst hx'
    have h0 : entE c E.ref E.ent E.per E.lines = 0 := by
      unfold postE at hp
      split at hp
      · exact hp
      · rename_i hn; simpa using hn
    rw [h1, h2, h3, h4]
    exact entE_right h0
theorem Rights.nil_of (h : Rights c es) (he : chartE c ≠ 0) : es = [] := by
  cases es with
  | nil => rfl
  | cons e es => exact absurd (h e (by simp)).chart he
theorem Rights.tot (h : Rights c es) (k : Key) : ∀ m, tot ((linesTo es m).map blank) k = 0 := by
  intro m
  induction m with
  | zero => rfl
  | succ m ih =>
    by_cases hm : m < es.length
    · rw [linesTo_succ hm, List.map_append, tot_append, ih, notZ_tot (h _ (List.getElem_mem hm)).zero]; rfl
    · unfold linesTo at *
      rw [List.take_of_length_le (by omega)] at *
      exact ih
theorem Rights.has (h : Rights c es) (m : Nat) : ∀ x, x ∈ linesTo es m → ∃ a, a ∈ c ∧ a.code = x.acc := by
  intro x hx
  unfold linesTo at hx
  obtain ⟨e, he, hx⟩ := List.mem_flatMap.1 hx
  exact leaf_in (lineE_ok (linesE_0 (h e (List.mem_of_mem_take he)).lines x hx)).1
/-- the law: all debits are all credits, and they fit -/
theorem Rights.even (h : Rights c es) (hn : es.length ≤ 60) (cur : ByteArray) : (turnD c cur (linesTo es es.length)).sum = (turnC c cur (linesTo es es.length)).sum ∧
    0 ≤ (turnD c cur (linesTo es es.length)).sum ∧ (turnD c cur (linesTo es es.length)).sum ≤ 1200000000000000000 := by
  by_cases he : chartE c = 0
  · have hu := ch_uniq he
    have h20 : (linesTo es es.length).length ≤ 20 * es.length := linesTo_len (fun e he => (h e he).high) _
    have hr := posOf_range cur (linesTo_bnd h.bnd es.length)
    have hz := pos_neg cur (linesTo es es.length)
    rw [h.tot] at hz
    rw [turnD_sum hu cur _ (h.has _), turnC_sum hu cur _ (h.has _)]
    omega
  · obtain rfl := h.nil_of he
    have e1 : (turnD c cur (linesTo [] ([] : List Ent).length)).sum = 0 := sum_map_zero c
    have e2 : (turnC c cur (linesTo [] ([] : List Ent).length)).sum = 0 := sum_map_zero c
    rw [e1, e2]; omega
theorem Rights.refs (k : Nat) (hk : k < es.length) : hasS (es.map Ent.ref).reverse es[k].ref = true := by
  unfold hasS
  rw [List.any_eq_true]
  exact ⟨es[k].ref, by simp only [List.mem_reverse]; exact List.mem_map_of_mem (List.getElem_mem hk), by simp⟩
theorem Rights.again (h : Rights c es) (k : Nat) (hk : k < es.length) : postE c es es[k].ref es[k].ent es[k].per es[k].lines = 8 := by
  rw [postE, if_neg (by simpa using right_entE (h _ (List.getElem_mem hk))), if_pos (Rights.refs k hk)]
theorem Right.small {ref : ByteArray} {ent per : Int} {l : List Line} (h : Right c ref ent per l) (hc : AccOk c) : ref.size ≤ 9223372036854775807 ∧ LinesOk l := by
  refine ⟨?_, fun x hx => ?_⟩
  · have := h.ref
    unfold refB at this
    simp only [Bool.and_eq_true, decide_eq_true_eq] at this
    omega
  · have h1 := lineE_ok (linesE_0 h.lines x hx)
    obtain ⟨a, ha, e⟩ := leaf_in h1.1
    obtain ⟨i, hi, rfl⟩ := List.getElem_of_mem ha
    have h2 := h1.2.1
    unfold curB at h2
    simp only [Bool.and_eq_true, decide_eq_true_eq] at h2
    refine ⟨by rw [← e]; exact (hc i hi).1, by omega⟩
end
theorem turnD_take {c : List Acc} {cur : ByteArray} {L : List Line} (k : Nat) (hk : k < c.length) : turnD (c.take (k + 1)) cur L = turnD (c.take k) cur L ++ [(debs c[k].code cur L).sum] := by
  unfold turnD
  rw [List.take_succ_eq_append_getElem hk, List.map_append]; rfl
theorem turnC_take {c : List Acc} {cur : ByteArray} {L : List Line} (k : Nat) (hk : k < c.length) : turnC (c.take (k + 1)) cur L = turnC (c.take k) cur L ++ [(creds c[k].code cur L).sum] := by
  unfold turnC
  rw [List.take_succ_eq_append_getElem hk, List.map_append]; rfl
theorem turnD_len (c : List Acc) (cur : ByteArray) (L : List Line) (k : Nat) : (turnD (c.take k) cur L).length ≤ k := by
  unfold turnD
  rw [List.length_map, List.length_take]; omega
theorem turnC_len (c : List Acc) (cur : ByteArray) (L : List Line) (k : Nat) : (turnC (c.take k) cur L).length ≤ k := by
  unfold turnC
  rw [List.length_map, List.length_take]; omega
theorem turn_64 {c : List Acc} {cur : ByteArray} {L : List Line} (h : Bnd 1000000000000000 L) (hl : L.length ≤ 1200) : Ints64 (turnD c cur L) ∧ Ints64 (turnC c cur L) := by
  constructor
  · intro y hy
    obtain ⟨a, _, rfl⟩ := List.mem_map.1 hy
    have := debs_range a.code cur h
    omega
  · intro y hy
    obtain ⟨a, _, rfl⟩ := List.mem_map.1 hy
    have := creds_range a.code cur h
    omega
end Go.Proofs.YthmjkhlndphldaaGreatDoor

namespace Go.Proofs.YthmjkhlndphldaaGreatDoor
open Go Go.RowKit
set_option linter.unusedVariables false

theorem EntFits.below {w w' : World} {e : Ent} (h : EntFits w e) (hb : Below w.heap.size w w') : EntFits w' e :=
  ⟨h.1, h.2.1, h.2.2.1, h.2.2.2.1.below hb, h.2.2.2.2.1, h.2.2.2.2.2⟩
theorem accEnc_ok : Enc 5 Acc.enc := ⟨fun _ => rfl, by
  intro a u hu
  simp only [Acc.enc, List.mem_cons, List.not_mem_nil, or_false] at hu
  rcases hu with rfl | rfl | rfl | rfl | rfl <;> rfl⟩
theorem size_alloc (w : World) (o : Obj) : w.heap.size + 1 = (w.alloc o).heap.size := by simp
theorem Own.nocap {α : Type} {w : World} {B e sz n c : Nat} {enc : α → List Value} {A : Option Addr} {l : List α} (h : Own w B e sz enc (.slice A n c) l) (hA : A = none) : c = 0 := by
  rcases h.2 with ⟨hv, _⟩ | ⟨g', cap, cur, hv, _⟩
  · injection hv
  · injection hv with e1; rw [hA] at e1; cases e1
def acct5 : List Acc := [⟨⟨#[49, 48]⟩, ⟨#[99, 97, 115, 104]⟩, 1, ⟨#[]⟩, true⟩, ⟨⟨#[50, 48]⟩, ⟨#[100, 101, 98, 116]⟩, 2, ⟨#[]⟩, true⟩, ⟨⟨#[51, 48]⟩, ⟨#[107, 101, 112, 116]⟩, 3, ⟨#[]⟩, false⟩, ⟨⟨#[52, 48]⟩, ⟨#[115, 97, 108, 101, 115]⟩, 4, ⟨#[]⟩, false⟩, ⟨⟨#[53, 48]⟩, ⟨#[99, 111, 115, 116]⟩, 5, ⟨#[]⟩, false⟩]
def line4 : List Line := [⟨⟨#[49, 48]⟩, eur, 5⟩, ⟨⟨#[52, 48]⟩, eur, -5⟩]
theorem chart3_any (w : World) : Calls Tryz.prog 25 #[] w fun e w' => ∃ g, e = .returned (.slice (some ⟨g, 0, none⟩) 5 5) ∧ Accs w' (some ⟨g, 0, none⟩) 5 acct5 ∧ Below w.heap.size w w' := by
  go_enter Tryz.func25, Tryz.ntmps25
  go_wp2_with fail
  go_ret
  exact ⟨_, rfl, Rd.lit w accEnc_ok acct5 5 rfl _ _ rfl, (Below.refl _ _).alloc (Nat.le_refl _) _⟩
theorem acct5_ok : AccOk acct5 := accOk_of (by
  intro a ha
  simp only [acct5, List.mem_cons, List.not_mem_nil, or_false] at ha
  rcases ha with rfl | rfl | rfl | rfl | rfl <;> exact ⟨by decide, by decide⟩)
theorem post_four : postE acct5 [] ⟨#[97]⟩ 1 1 line4 = 0 := by decide +kernel
theorem line4_fits {w : World} {g : Nat} (h : Rd w 3 lineEnc (some ⟨g, 0, none⟩) 2 line4) : EntFits w ⟨⟨#[97]⟩, 1, 1, some ⟨g, 0, none⟩, 2, 2, line4⟩ := by
  refine ⟨by show (1 : Nat) ≤ _; decide, Nat.le_refl _, by show (2 : Nat) ≤ maxLen; unfold maxLen; omega, h, ?_, fun h => by cases h⟩
  intro x hx
  simp only [line4, List.mem_cons, List.not_mem_nil, or_false] at hx
  rcases hx with rfl | rfl <;> exact ⟨by decide, by decide⟩
/-- an entry of two lines, laid by the statements' own function -/
theorem entry3_any (ref t f c : ByteArray) (ent per n : Int) (w : World) (h1 : -1000 ≤ n) (h2 : n ≤ 1000) :
    Calls Tryz.prog 26 #[.string ref, .int .i64 ent, .int .i64 per, .string t, .string f, .string c, .int .i64 n] w
      fun e w' => ∃ g, e = .returned (.agg #[.string ref, .int .i64 ent, .int .i64 per, .slice (some ⟨g, 0, none⟩) 2 2]) ∧ Rd w' 3 lineEnc (some ⟨g, 0, none⟩) 2 [⟨t, c, n⟩, ⟨f, c, -n⟩] ∧ Below w.heap.size w w' := by
  go_enter Tryz.func26, Tryz.ntmps26
  go_wp2_with fail
  refine bodyPost_ret (v := .agg #[.string ref, .int .i64 ent, .int .i64 per, .slice (some ⟨w.heap.size + 1, 0, none⟩) 2 2]) (by simp [results, Tryz.results26, go_sem]) rfl ⟨_, rfl, ?_, ((Below.refl _ _).alloc (Nat.le_refl _) _).alloc (by simp) _⟩
  have e : w.heap.size + 1 = (w.alloc (.cells #[.string ref, .int .i64 ent, .int .i64 per, .slice (some ⟨w.heap.size + 1, 0, none⟩) 2 2] 25)).heap.size := by simp
  generalize hw : w.alloc (.cells #[.string ref, .int .i64 ent, .int .i64 per, .slice (some ⟨w.heap.size + 1, 0, none⟩) 2 2] 25) = w1 at e ⊢
  rw [e]
  exact Rd.lit w1 lineEnc_ok [⟨t, c, n⟩, ⟨f, c, -n⟩] 2 rfl _ _ rfl

set_option maxRecDepth 100000 in
theorem jat_own {w : World} {B g m : Nat} {v : Value} {es : List Ent} (h : Jrn w B g m v es) (k : Nat) (hk : k < es.length) :
    Calls Tryz.prog 30 #[.pointer (some ⟨g, 0, none⟩), .int .i64 k] w
      fun e w' => ∃ VA vc, e = .returned (.tuple #[.agg #[.string es[k].ref, .int .i64 es[k].ent, .int .i64 es[k].per, .slice VA es[k].lines.length vc], .nilIface]) ∧ Own w' w.heap.size 35 3 lineEnc (.slice VA es[k].lines.length vc) es[k].lines ∧ Below w.heap.size w w' := by
  obtain ⟨A, c, rfl, h1, h2⟩ := h.few
  have c0 := h.c0
  have hrd := h.own.rd entEnc_ok
  have hK := h.all _ (List.getElem_mem hk)
  obtain ⟨b, off, rfl, hcs⟩ := hrd.2 (by omega)
  have q0 := hcs k 0 _ hk rfl
  have q1 := hcs k 1 _ hk rfl
  have q2 := hcs k 2 _ hk rfl
  have q3 := hcs k 3 _ hk rfl
  rw [Nat.add_zero] at q0
  clear hcs
  have k0 : (0 : Int) ≤ (k : Int) := by omega
  have k1 : (k : Int) < (es.length : Int) := by omega
  have d0 : decide ((k : Int) < 0) = false := by rw [decide_eq_false_iff_not]; omega
  have d1 : decide ((es.length : Int) ≤ (k : Int)) = false := by rw [decide_eq_false_iff_not]; omega
  have hgl := h.lt
  have hbl : b < w.heap.size := World.block_lt_of_cell? _ _ q1
  go_enter Tryz.func30, Tryz.ntmps30
  go_wp2_with fail
  refine (jclone_any es[k].ref es[k].ent es[k].per es[k].lines es[k].A es[k].n es[k].cap _ (hK.rd.below ((Below.refl _ _).alloc (Nat.le_refl _) _)) hK.few hK.nil).mono ?_
  rintro e w1 ⟨VA, vc, rfl, hown1, hb1⟩
  have hR : EntAt w1 w.heap.size ⟨#[]⟩ 0 0 (.slice none 0 0) := (EntAt.neu w ⟨#[]⟩ 0 0 (.slice none 0 0)).below hb1
  have zr : ∀ q, w1.frozen? ⟨w.heap.size, q, none⟩ = false := fun q => ((bcell hb1).2 _ q (by simp)).trans (by simp)
  have zr0 := zr 0
  have zr1 := zr 1
  have zr2 := zr 2
  have zr3 := zr 3
  obtain ⟨r0, r1, r2, r3⟩ := hR
  have hb1 := bof_alloc hb1
  clear zr
  have hlow : ∀ q, Value.ownBlock (.slice VA es[k].lines.length vc) = some q → q ≠ w.heap.size := fun q e => by have := (hown1.block _ e).1; simp at this; omega
  have hown1 : Own w1 w.heap.size 35 3 lineEnc (.slice VA es[k].lines.length vc) es[k].lines := Own.wider hown1 (by simp)
  go_wp2_with fail
  refine bodyPost_ret (v := .tuple #[.agg #[.string es[k].ref, .int .i64 es[k].ent, .int .i64 es[k].per, .slice VA es[k].lines.length vc], .nilIface]) (by simp [results, Tryz.results30, go_sem, r0, r1, r2, r3]) rfl ⟨_, _, rfl, ?_, ?_⟩
  · have hs : ∀ {wq : World} (o : Nat) (u : Value), Own wq w.heap.size 35 3 lineEnc (.slice VA es[k].lines.length vc) es[k].lines → Own (wq.setCell ⟨w.heap.size, o, none⟩ u) w.heap.size 35 3 lineEnc (.slice VA es[k].lines.length vc) es[k].lines := fun {wq} o u h => h.grown (only_setCell (only_refl wq (some w.heap.size)) o u) (.inr fun e => by exact hlow _ e rfl)
    exact hs _ _ (hs _ _ (hs _ _ (hs _ _ hown1)))
  · exact (((hb1.setCell (Nat.le_refl _) _).setCell (Nat.le_refl _) _).setCell (Nat.le_refl _) _).setCell (Nat.le_refl _) _

/-- what At hands out can be posted again -/
theorem at_fits {w : World} {B vc : Nat} {VA : Option Addr} {c : List Acc} {ref : ByteArray} {ent per : Int} {l : List Line} (h : Own w B 35 3 lineEnc (.slice VA l.length vc) l) (hr : Right c ref ent per l) (hc : AccOk c) : EntFits w ⟨ref, ent, per, VA, l.length, vc, l⟩ := by
  obtain ⟨h1, h2⟩ := hr.small hc
  obtain ⟨A', c', e, h3, h4⟩ := h.form
  injection e with e1 e2 e3
  subst e3
  exact ⟨h1, h3, h4, h.rd lineEnc_ok, h2, fun hA => h.nocap hA⟩

set_option maxHeartbeats 8000000 in
set_option maxRecDepth 100000 in
theorem even_any (c : List Acc) (CA : Option Addr) (cn ccap : Nat) (L : List Ent) (LA : Option Addr) (ln lcap : Nat) (cur : ByteArray) (w : World) (hg : ErrTy w)
    (hcn : cn ≤ 2199023255552) (hcc : cn ≤ ccap) (hc : Accs w CA cn c) (hcok : AccOk c) (hlc : ln ≤ lcap) (hlm : lcap ≤ maxLen) (hL : Rd w 4 Ent.enc LA ln L) (hLok : ∀ e, e ∈ L → EntFits w e) :
    Calls Tryz.prog 6 #[.slice CA cn ccap, .slice LA ln lcap, .string cur] w
      fun e w' => e = .returned (.bool true) ∧ Below w.heap.size w w' := by
  obtain ⟨i0, hi0, hz0, hz1, hz2⟩ := info_parts int_info
  have hln : ln ≤ 9223372036854775807 := by unfold maxLen at hlm; omega
  have Hn := hide hL.1
  have Hcn := hide hc.1
  go_enter Tryz.func6, Tryz.ntmps6
  go_wp2_with fail
  refine (jnew_any _).mono ?_
  rintro e w1 ⟨g, m, rfl, hJ1, hb1⟩
  go_wp2_with fail
  refine (chart3_any _).mono ?_
  rintro e w2 ⟨ga, rfl, hac2, hb2'⟩
  have hJ2 := hJ1.below hb2'
  have hb2 := bthen hb1 (Nat.le_refl _) hb2'
  go_wp2_with fail
  refine (entry3_any _ _ _ _ 1 1 5 _ (by decide) (by decide)).mono ?_
  rintro e w3 ⟨g3, rfl, hl3, hb3'⟩
  have hJ3 := hJ2.below hb3'
  have hac3 := hac2.below hb3'
  have hb3 := bthen hb2 (Nat.le_refl _) hb3'
  go_wp2_with fail
  refine (jpost_any hJ3 (by simp) hb3.size acct5 _ 5 5 ⟨⟨#[97]⟩, 1, 1, some ⟨g3, 0, none⟩, 2, 2, line4⟩ (by omega) (by omega) hac3 acct5_ok (line4_fits hl3)).mono ?_
  rintro e w4 (⟨hbad, _⟩ | ⟨_, rfl, hb4', v4, E4, _, _, _, hE4, hJ4⟩)
  · exact absurd post_four hbad
  have hb4 := hb3.trans hb4'
  have hE4 : E4.lines = line4 := hE4
  have hL4 : linesTo ([] ++ [E4]) ([] ++ [E4]).length = line4 := by
    show linesTo [E4] 1 = _
    simp [linesTo, hE4]
  have hd4 : (debs ⟨#[49, 48]⟩ ⟨#[69, 85, 82]⟩ line4).sum = 5 := by decide +kernel
  have hc4 : (creds ⟨#[49, 48]⟩ ⟨#[69, 85, 82]⟩ line4).sum = 0 := by decide +kernel
  go_wp2_with fail
  refine (jturns_any hJ4 (by simp) (by
    intro e he
    have : e = E4 := by simpa using he
    subst this
    rw [hE4]
    intro x hx
    simp only [line4, List.mem_cons, List.not_mem_nil, or_false] at hx
    rcases hx with rfl | rfl <;> exact ⟨by decide, by decide⟩) _ _).mono ?_
  rintro e w5 ⟨rfl, hb5'⟩
  rw [hL4, hd4, hc4]
  have hb5 := hb4.trans (hb5'.mono hb4.size)
  clear hL4 hd4 hc4 hE4 hJ4 hJ3 hJ2 hJ1 hac2 hac3 hl3 hb2' hb3' hb4' hb5'
  go_wp2_with fail
  refine (jnew_any _).mono ?_
  rintro e w6 ⟨g6, m6, rfl, hJ6, hb6'⟩
  have hb6 := bthen hb5 (Nat.le_refl _) hb6'
  go_wp2_with fail
  go_loopw [13] (fun iv wr => ∃ (k : Nat) (v : Value) (es : List Ent), k ≤ 60 ∧ k ≤ ln ∧ iv = .int .i64 k ∧ es.length ≤ k ∧ Rights c es ∧ Jrn wr w5.heap.size g6 m6 v es ∧ Below w5.heap.size w5 wr) (fun iv _ => 60 - (intOf iv).toNat)
  case atStart => exact ⟨0, _, [], by omega, by omega, rfl, by simp, (fun x hx => by cases hx), hJ6, hb6'⟩
  case round =>
    obtain ⟨k, v, es, hk60, hkn, rfl, hes, hin, hJ, hbr'⟩ := hrel
    have hbr := bthen hb5 (Nat.le_refl _) hbr'
    have hHin := hide hin
    clear hin
    by_cases hgo : k < ln ∧ k < 60
    · obtain ⟨hlt, hlt60⟩ := hgo
      have hkl : k < L.length := by have := Hn.out; omega
      obtain ⟨b, off, rfl, hcs⟩ := (Rd.below hL hbr).2 (by omega)
      have q0 := hcs k 0 _ hkl rfl
      have q1 := hcs k 1 _ hkl rfl
      have q2 := hcs k 2 _ hkl rfl
      have q3 := hcs k 3 _ hkl rfl
      rw [Nat.add_zero] at q0
      clear hcs
      have hfit := (hLok L[k] (List.getElem_mem _)).below hbr
      have k0 : (0 : Int) ≤ (k : Int) := by omega
      have k1 : (k : Int) < (ln : Int) := by omega
      have k2 : (k : Int) < 60 := by omega
      have hcn' : cn ≤ 9223372036854775807 := by omega
      go_wp2_with fail
      refine (jpost_any hJ (by omega) hbr'.size c _ _ _ L[k] hcn' hcc (hc.below hbr) hcok hfit).mono ?_
      rintro e w7 (⟨_, rfl, hJ7, hb7⟩ | ⟨hp0, rfl, hb7, v7, E7, hr7, he7, hp7, hl7, hJ7⟩)
      · go_wp2_with fail
        go_roundw
        case rel => exact ⟨k + 1, v, es, by omega, by omega, by go_num, by omega, hHin.out, hJ7, bthen hbr' (Nat.le_refl _) hb7⟩
        case measure => simp [intOf]; omega
      · go_wp2_with fail
        go_roundw
        case rel => exact ⟨k + 1, v7, es ++ [E7], by omega, by omega, by go_num, by rw [List.length_append]; simp; omega, Rights.push hHin.out hp0 hr7 he7 hp7 hl7, hJ7, hbr'.trans hb7⟩
        case measure => simp [intOf]; omega
    · have hx : ¬ k < ln ∨ (k < ln ∧ ¬ k < 60) := by omega
      have hes60 : es.length ≤ 60 := by omega
      have hgr := hg.below hbr
      have hcr := hc.below hbr
      clear hgo hL hLok hb6' hJ6
      rcases hx with h1 | ⟨h1, h2⟩
      all_goals
        have hJb : Hid (∀ e, e ∈ es → Bnd 1000000000000000 e.lines) := hHin.out.bnd
        obtain ⟨LL, hLL⟩ : ∃ LL, LL = linesTo es es.length := ⟨_, rfl⟩
        have hLb : Bnd 1000000000000000 LL := by rw [hLL]; exact linesTo_bnd hJb.out _
        have hLn : LL.length ≤ 1200 := by rw [hLL]; have := linesTo_len (fun e he => (hHin.out e he).high) (es := es) es.length; omega
        have HB := hide hLb
        have hcrd := hcr
        go_wp2_with fail
        go_loopw [14, 15, 16] (fun dv cv iv wq => ∃ q : Nat, q ≤ cn ∧ iv = .int .i64 q ∧ Own wq wr.heap.size 3 1 intEnc2 dv (turnD (c.take q) cur LL) ∧ Own wq wr.heap.size 3 1 intEnc2 cv (turnC (c.take q) cur LL) ∧ (∀ z, dv.ownBlock = some z → cv.ownBlock ≠ some z) ∧ Below wr.heap.size wr wq) (fun _ _ iv _ => cn - (intOf iv).toNat)
        case atStart => exact ⟨0, by omega, rfl, Own.nil _ _ _ _ _, Own.nil _ _ _ _ _, by intro z hz; simp [Value.ownBlock] at hz, Below.refl _ _⟩
        case round =>
          obtain ⟨q, hq, rfl, hownD, hownC, hap, hbq⟩ := hrel
          have hJq := hJ.below hbq
          have hszq := hbq.size
          by_cases hqn : q < cn
          · have hqc : q < c.length := by have := Hcn.out; omega
            obtain ⟨b, off, rfl, hcs⟩ := (hcrd.below hbq).at_ (by omega)
            obtain ⟨z0, z1, z2, z3, z4⟩ := hcs q hqc
            clear hcs
            have k0 : (0 : Int) ≤ (q : Int) := by omega
            have k1 : (q : Int) < (cn : Int) := by omega
            go_wp2_with fail
            refine (jturns_any hJq (by omega) hJb.out c[q].code cur).mono ?_
            rintro e w7 ⟨rfl, hb7⟩
            rw [← hLL]
            obtain ⟨hd0, hd1⟩ := debs_range c[q].code cur HB.out
            obtain ⟨hc0, hc1⟩ := creds_range c[q].code cur HB.out
            have HTD := hide (turnD_take (cur := cur) (L := LL) q hqc)
            have HTC := hide (turnC_take (cur := cur) (L := LL) q hqc)
            have hlD := turnD_len c cur LL q
            have hlC := turnC_len c cur LL q
            obtain ⟨x, hx⟩ : ∃ x, x = (debs c[q].code cur LL).sum := ⟨_, rfl⟩
            obtain ⟨y, hy⟩ : ∃ y, y = (creds c[q].code cur LL).sum := ⟨_, rfl⟩
            rw [← hx] at HTD hd0 hd1 ⊢
            rw [← hy] at HTC hc0 hc1 ⊢
            clear hx hy
            have hownD7 := hownD.below hb7
            have hownC7 := hownC.below hb7
            have hbq7 := bthen hbq (Nat.le_refl _) hb7
            have hsz7 := hbq7.size
            go_wp2_with (first | (at_builtin; (refine wpList_push _ rfl _ _ 42 rfl _ 3 i0 (.int .i64 0) 1 8 Tryz.underlying42 hi0 hz0 hz1 hz2 rfl (by decide) intEnc2_ok _ (turnD (c.take q) cur LL) rfl (hownD7.alloc _) _ 1 1 [x] rfl (Rd.boxed _ intEnc2_ok _ _ _ rfl) (by intro h; cases h) (by simp only [maxLen]; omega) (by omega) (by simp; omega) ?_); intro v' w8 hown8 hg8 hat8; have hC8 := (hownC7.alloc (.cells #[.int .i64 x] 3)).grown hg8 (apart_or hap); have hap8 := apart_new hap hat8 (fun z e => by have := (hownC7.block z e).2; simp; omega); have hb8 := (hbq7.alloc hsz7 (.cells #[.int .i64 x] 3)).grown hg8 (by simp; omega) (fun z e => (hownD7.block z e).1); have hsz8 := hb8.size) | (at_builtin; (refine wpList_push _ rfl _ _ 42 rfl _ 3 i0 (.int .i64 0) 1 8 Tryz.underlying42 hi0 hz0 hz1 hz2 rfl (by decide) intEnc2_ok _ (turnC (c.take q) cur LL) rfl (hC8.alloc _) _ 1 1 [y] rfl (Rd.boxed _ intEnc2_ok _ _ _ rfl) (by intro h; cases h) (by simp only [maxLen]; omega) (by omega) (by simp; omega) ?_); intro v'' w9 hown9 hg9 hat9))
            go_roundw
            case rel => exact ⟨q + 1, by omega, by go_num, by rw [HTD.out]; exact (hown8.alloc _).grown hg9 (apart_or (apart_sym hap8)), by rw [HTC.out]; exact hown9, apart_sym (apart_new (apart_sym hap8) hat9 (fun z e => by have := (hown8.block z e).2; simp; omega)), (hb8.alloc hsz8 _).grown hg9 (by simp; omega) (fun z e => (hC8.block z e).1)⟩
            case measure => simp [intOf]; omega
          · have hqe : q = cn := by omega
            have hct : c.take q = c := by rw [hqe, ← Hcn.out, List.take_length]
            rw [hct] at hownD hownC
            obtain ⟨ht1, ht2⟩ := turn_64 (c := c) (cur := cur) HB.out hLn
            have hEv := hHin.out.even hes60 cur
            rw [← hLL] at hEv
            have hlD : (turnD c cur LL).length ≤ 2199023255552 := by have := turnD_len c cur LL q; rw [hct] at this; omega
            have hlC : (turnC c cur LL).length ≤ 2199023255552 := by have := turnC_len c cur LL q; rw [hct] at this; omega
            obtain ⟨D, hD⟩ : ∃ D, D = turnD c cur LL := ⟨_, rfl⟩
            obtain ⟨C, hC⟩ : ∃ C, C = turnC c cur LL := ⟨_, rfl⟩
            rw [← hD] at hownD ht1 hEv hlD
            rw [← hC] at hownC ht2 hEv hlC
            clear hD hC hct
            obtain ⟨he1, he2, he3⟩ := hEv
            obtain ⟨DA, dc, rfl, _, _⟩ := hownD.form
            obtain ⟨XA, xc, rfl, _, _⟩ := hownC.form
            have hrD := hownD.rd intEnc2_ok
            have hrC := hownC.rd intEnc2_ok
            have hiD := in64_yes D.sum (by omega)
            have hiC := in64_yes C.sum (by omega)
            have HD : Hid (smV D.sum = D.sum) := if_pos hiD
            have HC : Hid (smV C.sum = D.sum) := (if_pos hiC).trans he1.symm
            have hED := errV_0 (e := smE D.sum) (if_pos hiD)
            have hEC := errV_0 (e := smE C.sum) (if_pos hiC)
            clear he1 he2 he3 hiD hiC hownD hownC
            go_wp2_with fail
            refine (msum_any D _ _ _ _ hrD hlD ht1).mono ?_
            rintro e w7 ⟨rfl, hb7⟩
            rw [HD.out, hED]
            clear hED
            have hb7' := hb7
            have hb7 := bthen hbq (Nat.le_refl _) hb7
            go_wp2_with fail
            refine (msum_any C _ _ _ _ (hrC.below hb7') hlC ht2).mono ?_
            rintro e w8 ⟨rfl, hb8⟩
            rw [HC.out, hEC]
            clear hEC
            have hb8 := bthen hb7 (Nat.le_refl _) hb8
            have hbw8 := bthen hbr (Nat.le_refl _) hb8
            have hJ8 := hJ.below hb8
            have hg8 := hgr.below hb8
            have hc8 := hcr.below hb8
            go_wp2_with fail
            go_loopw [24] (fun iv wq => ∃ z : Nat, z ≤ es.length ∧ iv = .int .i64 z ∧ Below w8.heap.size w8 wq) (fun iv _ => es.length - (intOf iv).toNat)
            case atStart => exact ⟨0, by omega, rfl, Below.refl _ _⟩
            case round =>
              obtain ⟨z, hz, rfl, hbz⟩ := hrel
              have hJz := hJ8.below hbz
              by_cases hzl : z < es.length
              · have z0 : (0 : Int) ≤ (z : Int) := by omega
                have z1 : (z : Int) < (es.length : Int) := by omega
                have hhas := Rights.refs z hzl
                have HA := hide (hHin.out.again z hzl)
                have hRz := hide (hHin.out _ (List.getElem_mem hzl))
                have hrs := hide (hRz.out.small hcok)
                have HH := hide hhas
                clear hhas
                go_wp2_with fail
                refine (jlen_any hJz).mono ?_
                rintro e wa ⟨rfl, rfl⟩
                go_wp2_with fail
                refine (jat_own hJz z hzl).mono ?_
                rintro e wb ⟨VA, vc, rfl, hownV, hbb⟩
                have hbzb := bthen hbz (Nat.le_refl _) hbb
                have hbzw := hbzb.alloc hbzb.size (.cells #[.string es[z].ref, .int .i64 es[z].ent, .int .i64 es[z].per, .slice VA es[z].lines.length vc] 25)
                have hJ3 := (hJz.below hbb).alloc (.cells #[.string es[z].ref, .int .i64 es[z].ent, .int .i64 es[z].per, .slice VA es[z].lines.length vc] 25)
                have hV3 := hownV.alloc (.cells #[.string es[z].ref, .int .i64 es[z].ent, .int .i64 es[z].per, .slice VA es[z].lines.length vc] 25)
                obtain ⟨p0, p1, p2, p3⟩ := EntAt.neu wb es[z].ref es[z].ent es[z].per (.slice VA es[z].lines.length vc)
                have hbs := hbzb.size
                clear hownV hbb
                generalize hwc : wb.alloc (.cells #[.string es[z].ref, .int .i64 es[z].ent, .int .i64 es[z].per, .slice VA es[z].lines.length vc] 25) = wc at hJ3 hV3 p0 p1 p2 p3 hbzw
                have hpl : wb.heap.size < wc.heap.size := World.block_lt_of_cell? _ _ p0
                go_wp2_with fail
                refine (jhas_any hJ3 es[z].ref hrs.out.1).mono ?_
                rintro e wd ⟨rfl, hbd⟩
                rw [HH.out]
                have hJ4 := hJ3.below hbd
                have hV4 := hV3.below hbd
                have p0 := below_cell hbd hpl p0
                have p1 := below_cell hbd hpl p1
                have p2 := below_cell hbd hpl p2
                have p3 := below_cell hbd hpl p3
                have hbd := bthen hbzw (Nat.le_refl _) hbd
                have h5d : w5.heap.size ≤ wd.heap.size := by have := hbr'.size; have := hb8.size; have := hbd.size; omega
                go_wp2_with fail
                refine (jpost_any hJ4 (by omega) h5d c _ _ _ ⟨es[z].ref, es[z].ent, es[z].per, VA, es[z].lines.length, vc, es[z].lines⟩ (by omega) hcc (hc8.below hbd) hcok (at_fits hV4 hRz.out hcok)).mono ?_
                rintro e we (⟨_, rfl, hJe, hbe⟩ | ⟨hp0, _⟩)
                · rw [HA.out]
                  have hbe := bthen hbd (Nat.le_refl _) hbe
                  have hE := error_any 8 8 _ (hg8.below hbe) (by decide) (by decide)
                  rw [errV_n (by decide)] at hE
                  go_wp2_with fail
                  refine hE.mono ?_
                  rintro e wf ⟨rfl, hbf⟩
                  go_wp2_with fail
                  go_roundw
                  case rel => exact ⟨z + 1, by omega, by go_num, bthen hbe (Nat.le_refl _) hbf⟩
                  case measure => simp [intOf]; omega
                · exact absurd (HA.out.symm.trans hp0) (by decide)
              · go_wp2_with fail
                refine (jlen_any hJz).mono ?_
                rintro e wa ⟨rfl, rfl⟩
                go_wp2_with fail
                go_ret
                exact ⟨by simp, bthen hbw8 (Nat.le_refl _) hbz⟩
end Go.Proofs.YthmjkhlndphldaaGreatDoor
