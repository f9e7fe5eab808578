/- report.check, report.kinds: what each returns. -/
import Derived.Test.YthmjkhlndphldaaGreatDoorLedZ
import Derived.Test.YthmjkhlndphldaaGreatDoorPairZ
import Derived.Deep.AppendLies
import Derived.Laws.ResultCell
import Derived.BigQuiet
import Derived.Test.YthmjkhlndphldaaGreatDoorEvenAll
namespace Go.Proofs.YthmjkhlndphldaaGreatDoor
open Go Go.RowKit
set_option linter.unusedVariables false

def rcE (c : List Acc) (l : List Bal) (ent : Int) : Int := if chartE c ≠ 0 then chartE c else if balsE l ≠ 0 then balsE l else if inB 1 12 ent = false then 1 else 0
section
variable {c : List Acc} {l : List Bal} {ent : Int} {cur : ByteArray}
theorem rcE_1 (h : chartE c ≠ 0) : rcE c l ent = chartE c := if_pos h
theorem rcE_2 (h : chartE c = 0) (h2 : balsE l ≠ 0) : rcE c l ent = balsE l := by rw [rcE, if_neg (by simpa using h), if_pos h2]
theorem rcE_3 (h : chartE c = 0) (h2 : balsE l = 0) (h3 : inB 1 12 ent = false) : rcE c l ent = 1 := by rw [rcE, if_neg (by simpa using h), if_neg (by simpa using h2), if_pos h3]
theorem rcE_4 (h : chartE c = 0) (h2 : balsE l = 0) (h3 : inB 1 12 ent = true) : rcE c l ent = 0 := by rw [rcE, if_neg (by simpa using h), if_neg (by simpa using h2), if_neg (by rw [h3]; decide)]
theorem rcE_0 (h : rcE c l ent = 0) : chartE c = 0 ∧ balsE l = 0 ∧ inB 1 12 ent = true := by
  by_cases h1 : chartE c = 0
  · by_cases h2 : balsE l = 0
    · cases h3 : inB 1 12 ent with
      | true => exact ⟨h1, h2, rfl⟩
      | false => rw [rcE_3 h1 h2 h3] at h; cases h
    · rw [rcE_2 h1 h2] at h; exact absurd h h2
  · rw [rcE_1 h1] at h; exact absurd h h1
theorem rcE_range : 0 ≤ rcE c l ent ∧ rcE c l ent ≤ 12 := by
  have h1 := chartE_range c
  have h2 := balsE_range l
  unfold rcE
  repeat' split
  all_goals omega
end

set_option maxRecDepth 100000 in
theorem rcheck_any (c : List Acc) (CA : Option Addr) (cn ccap : Nat) (l : List Bal) (A : Option Addr) (n cap : Nat) (ent : Int) (w : World) (hcl : cn ≤ 9223372036854775807) (hcc : cn ≤ ccap) (hc : Accs w CA cn c) (hcok : AccOk c) (hl : n ≤ 9223372036854775807) (ha : Rd w 4 balEnc A n l) :
    Calls Tryz.prog 140 #[.slice CA cn ccap, .slice A n cap, .int .i64 ent] w fun e w' => e = .returned (errV (rcE c l ent)) ∧ Below w.heap.size w w' := by
  by_cases h1 : chartE c = 0
  · have H1 := hide h1
    clear h1
    by_cases h2 : balsE l = 0
    · have H2 := hide h2
      clear h2
      cases h3 : inB 1 12 ent with
      | true =>
        have HE := hide (rcE_4 H1.out H2.out h3)
        have H3 := hide h3
        clear h3
        go_enter Tryz.func140, Tryz.ntmps140
        go_wp2_with fail
        refine (check_ok c _ _ _ _ hcl hcc hc hcok H1.out).mono ?_
        rintro e w1 ⟨rfl, hb1⟩
        go_wp2_with fail
        refine (lcheck_any l _ _ _ _ hl (ha.below hb1)).mono ?_
        rintro e w2 ⟨rfl, hb2⟩
        rw [errV_0 H2.out]
        have hb2 := bthen hb1 (Nat.le_refl _) hb2
        go_wp2_with fail
        refine (entity_any _ _).mono ?_
        rintro e w3 ⟨rfl, rfl⟩
        rw [H3.out]
        go_wp2_with fail
        go_ret
        exact ⟨by rw [errV_0 HE.out]; rfl, hb2⟩
      | false =>
        have HE := hide (rcE_3 H1.out H2.out h3)
        have H3 := hide h3
        clear h3
        go_enter Tryz.func140, Tryz.ntmps140
        go_wp2_with fail
        refine (check_ok c _ _ _ _ hcl hcc hc hcok H1.out).mono ?_
        rintro e w1 ⟨rfl, hb1⟩
        go_wp2_with fail
        refine (lcheck_any l _ _ _ _ hl (ha.below hb1)).mono ?_
        rintro e w2 ⟨rfl, hb2⟩
        rw [errV_0 H2.out]
        have hb2 := bthen hb1 (Nat.le_refl _) hb2
        go_wp2_with fail
        refine (entity_any _ _).mono ?_
        rintro e w3 ⟨rfl, rfl⟩
        rw [H3.out]
        go_wp2_with fail
        go_ret
        exact ⟨by rw [HE.out]; rfl, hb2⟩
    · have HE := hide (rcE_2 (ent := ent) H1.out h2)
      have HN := hide h2
      clear h2
      go_enter Tryz.func140, Tryz.ntmps140
      go_wp2_with fail
      refine (check_ok c _ _ _ _ hcl hcc hc hcok H1.out).mono ?_
      rintro e w1 ⟨rfl, hb1⟩
      go_wp2_with fail
      refine (lcheck_any l _ _ _ _ hl (ha.below hb1)).mono ?_
      rintro e w2 ⟨rfl, hb2⟩
      rw [errV_n HN.out]
      have hb2 := bthen hb1 (Nat.le_refl _) hb2
      go_wp2_with fail
      go_ret
      exact ⟨by rw [HE.out, errV_n HN.out]; rfl, hb2⟩
  · have HE := hide (rcE_1 (l := l) (ent := ent) h1)
    have HN := hide h1
    clear h1
    go_enter Tryz.func140, Tryz.ntmps140
    go_wp2_with fail
    refine (check_bad c _ _ _ _ hcl hcc hc hcok HN.out).mono ?_
    rintro e w1 ⟨rfl, hb1⟩
    go_wp2_with fail
    go_ret
    exact ⟨by rw [HE.out, errV_n HN.out]; rfl, hb1⟩

/-- what accounts of kind k have, of the first i -/
def kindTo (c : List Acc) (am : List Int) (i : Nat) (k : Nat) : List Int := (((c.zip am).take i).filter fun p => p.1.kind == (k : Int)).map Prod.snd
theorem kindTo_succ {c : List Acc} {am : List Int} {i : Nat} (k : Nat) (hi : i < c.length) (ha : i < am.length) : kindTo c am (i + 1) k = kindTo c am i k ++ (if c[i].kind = (k : Int) then [am[i]] else []) := by
  have hz : i < (c.zip am).length := by rw [List.length_zip]; omega
  unfold kindTo
  rw [List.take_succ_eq_append_getElem hz, List.filter_append, List.map_append]
  congr 1
  rw [List.getElem_zip]
  by_cases h : c[i].kind = (k : Int)
  · simp [h]
  · simp [h]
theorem kindTo_len (c : List Acc) (am : List Int) (i k : Nat) : (kindTo c am i k).length ≤ i := by
  unfold kindTo
  rw [List.length_map]
  refine Nat.le_trans (List.length_filter_le _ _) ?_
  rw [List.length_take]
  omega
theorem kindTo_ints {c : List Acc} {am : List Int} (h : Ints64 am) (i k : Nat) : Ints64 (kindTo c am i k) := by
  intro y hy
  unfold kindTo at hy
  obtain ⟨p, hp, rfl⟩ := List.mem_map.1 hy
  have := List.mem_of_mem_take (List.mem_filter.1 hp).1
  exact h _ (List.of_mem_zip this).2

theorem none_or {o row : Option Nat} (h : ∀ b, o = some b → row ≠ some b) : o = none ∨ o ≠ row := by
  cases o with
  | none => exact .inl rfl
  | some b => exact .inr fun e => h b rfl e.symm
/-- six slices that the call appends to: each in a block of its own -/
structure Six (w : World) (G B : Nat) (vs : Nat → Value) (F : Nat → List Int) : Prop where
  row : VRow w G 187 6 vs
  own : ∀ k, k < 6 → Own w B 3 1 intEnc2 (vs k) (F k)
  apart : ∀ k j b, k < 6 → j < 6 → k ≠ j → (vs k).ownBlock = some b → (vs j).ownBlock ≠ some b
  low : G < B
theorem Six.push {w w1 w' : World} {G B k : Nat} {vs : Nat → Value} {F F' : Nat → List Int} (h : Six w G B vs F) (hk : k < 6) {v : Value} (h1 : w.grownBy w1 none) (hown : Own w' B 3 1 intEnc2 v (F' k)) (hg : w1.grownBy w' (vs k).ownBlock)
    (hat : v.ownBlock = (vs k).ownBlock ∨ v.ownBlock = some w1.heap.size) (hF : ∀ j, j < 6 → j ≠ k → F' j = F j) :
    Six (w'.setCell ⟨G, k, none⟩ v) G B (fun j => if j = k then v else vs j) F' := by
  have hG : some G ≠ (vs k).ownBlock := fun e => by have := ((h.own k hk).block G e.symm).1; have := h.low; omega
  have hsz : ∀ j b, j < 6 → (vs j).ownBlock = some b → b < w1.heap.size := fun j b hj e => Nat.lt_of_lt_of_le ((h.own j hj).block b e).2 h1.size
  have hset : w'.grownBy (w'.setCell ⟨G, k, none⟩ v) (some G) := only_setCell (only_refl _ _) _ _
  have hvG : v.ownBlock ≠ some G := fun e => by have := (hown.block G e).1; have := h.low; omega
  refine ⟨?_, fun j hj => ?_, fun i j b hi hj hij => ?_, h.low⟩
  · have hr1 : VRow w1 G 187 6 vs := by
      have := h1.block G h.row.lt (by simp)
      unfold VRow at *
      rw [this]; exact h.row
    have hr2 : VRow w' G 187 6 vs := by
      have := hg.block G hr1.lt hG
      unfold VRow at *
      rw [this]; exact hr1
    exact hr2.set_ k v
  · by_cases e : j = k
    · subst e
      simp only [if_pos]
      exact hown.grown hset (.inr hvG)
    · simp only [if_neg e]
      rw [hF j hj e]
      refine (((h.own j hj).grown h1 (none_or fun b _ => by simp)).grown hg (none_or fun b e1 e2 => ?_)).grown hset (none_or fun b e1 e2 => by injection e2 with e2; have := ((h.own j hj).block b e1).1; have := h.low; omega)
      exact h.apart k j b hk hj (fun e3 => e e3.symm) e2 e1
  · have hv : ∀ b, v.ownBlock = some b → (vs k).ownBlock = some b ∨ b = w1.heap.size := fun b e => by
      rcases hat with h2 | h2
      · exact .inl (h2 ▸ e)
      · rw [h2] at e; injection e with e; exact .inr e.symm
    by_cases ei : i = k
    · subst ei
      have ej : ¬ j = i := fun e => hij e.symm
      simp only [if_pos, if_neg ej]
      intro e1 e2
      rcases hv b e1 with h3 | h3
      · exact h.apart i j b hi hj hij h3 e2
      · have := hsz j b hj e2; omega
    · simp only [if_neg ei]
      by_cases ej : j = k
      · subst ej
        simp only [if_pos]
        intro e1 e2
        rcases hv b e2 with h3 | h3
        · exact h.apart i j b hi hj hij e1 h3
        · have := hsz i b hi e1; omega
      · simp only [if_neg ej]
        exact h.apart i j b hi hj hij
end Go.Proofs.YthmjkhlndphldaaGreatDoor

namespace Go.Proofs.YthmjkhlndphldaaGreatDoor
open Go Go.RowKit
set_option linter.unusedVariables false

def kdE (c : List Acc) (l : List Bal) (ent : Int) (cur : ByteArray) : Int := if rcE c l ent ≠ 0 then rcE c l ent else if curB cur = false then 2 else amtE c l ent cur
section
variable {c : List Acc} {l : List Bal} {ent : Int} {cur : ByteArray}
theorem kdE_1 (h : rcE c l ent ≠ 0) : kdE c l ent cur = rcE c l ent := if_pos h
theorem kdE_2 (h : rcE c l ent = 0) (h2 : curB cur = false) : kdE c l ent cur = 2 := by rw [kdE, if_neg (by simpa using h), if_pos h2]
theorem kdE_3 (h : rcE c l ent = 0) (h2 : curB cur = true) : kdE c l ent cur = amtE c l ent cur := by rw [kdE, if_neg (by simpa using h), if_neg (by rw [h2]; decide)]
end
def ksum (c : List Acc) (l : List Bal) (ent : Int) (cur : ByteArray) (k : Nat) : Int := (kindTo c (amtTo c l ent cur l.length) c.length k).sum
def aggK (f : Nat → Int) : Value := .agg #[.int .i64 (f 0), .int .i64 (f 1), .int .i64 (f 2), .int .i64 (f 3), .int .i64 (f 4), .int .i64 (f 5)]

theorem ret_row {fn : Func} {p u : Tmp} {ty : TypeId} (h : fn.results = #[.cell p ty, .tmp u]) {tmps : Array Value} {w : World} {g : Nat} {F : Nat → Value} {len : Nat} {el : TypeId} {P : Program}
    (hp : tmps.getD p undef = .pointer (some ⟨g, 0, none⟩)) (hr : VRow w g ty 6 F) (hu : P.underlying ty = some (.array len el)) (hi : (P.info? ty).map (·.size) = some 6) :
    (results fn tmps).run P w = .ok (.tuple #[.agg #[F 0, F 1, F 2, F 3, F 4, F 5], tmps.getD u undef]) w := by
  have hp' : tmps[p]?.getD undef = .pointer (some ⟨g, 0, none⟩) := by simpa using hp
  rw [results_cell_tmp h]
  have hr' : w.heap[g]? = some (.cells #[F 0, F 1, F 2, F 3, F 4, F 5] ty) := hr
  simp [hp', asAddr, Result.andThen, run_loadVar_row w g ty ty _ _ (.array len el) hr' hu rfl hi]
theorem six_info : (Tryz.prog.info? 144).map (·.size) = some 6 := by
  kernel_rfl
theorem six0 (u0 u1 u2 u3 u4 u5 : Value) (w : World) : (Instr.index 187 (.agg #[u0, u1, u2, u3, u4, u5]) (.int .i64 0)).run Tryz.prog w = .ok u0 w := by
  kernel_rfl
theorem six1 (u0 u1 u2 u3 u4 u5 : Value) (w : World) : (Instr.index 187 (.agg #[u0, u1, u2, u3, u4, u5]) (.int .i64 1)).run Tryz.prog w = .ok u1 w := by
  kernel_rfl
theorem six2 (u0 u1 u2 u3 u4 u5 : Value) (w : World) : (Instr.index 187 (.agg #[u0, u1, u2, u3, u4, u5]) (.int .i64 2)).run Tryz.prog w = .ok u2 w := by
  kernel_rfl
theorem six3 (u0 u1 u2 u3 u4 u5 : Value) (w : World) : (Instr.index 187 (.agg #[u0, u1, u2, u3, u4, u5]) (.int .i64 3)).run Tryz.prog w = .ok u3 w := by
  kernel_rfl
theorem six4 (u0 u1 u2 u3 u4 u5 : Value) (w : World) : (Instr.index 187 (.agg #[u0, u1, u2, u3, u4, u5]) (.int .i64 4)).run Tryz.prog w = .ok u4 w := by
  kernel_rfl
theorem six5 (u0 u1 u2 u3 u4 u5 : Value) (w : World) : (Instr.index 187 (.agg #[u0, u1, u2, u3, u4, u5]) (.int .i64 5)).run Tryz.prog w = .ok u5 w := by
  kernel_rfl
theorem row_step {w : World} {g e k : Nat} {F : Nat → Int} (h : VRow w g e 6 (fun j => .int .i64 (if j < k then F j else 0))) : VRow (w.setCell ⟨g, k, none⟩ (.int .i64 (F k))) g e 6 (fun j => .int .i64 (if j < k + 1 then F j else 0)) := by
  refine (h.set_ k _).congr fun j _ => ?_
  by_cases e : j = k
  · subst e; simp
  · by_cases h2 : j < k
    · simp [e, h2, show j < k + 1 by omega]
    · simp [e, h2, show ¬ j < k + 1 by omega]

set_option maxHeartbeats 4000000 in
set_option maxRecDepth 100000 in
theorem kinds_any (c : List Acc) (CA : Option Addr) (cn ccap : Nat) (l : List Bal) (A : Option Addr) (n cap : Nat) (ent : Int) (cur : ByteArray) (w : World) (hcl : cn ≤ 9223372036854775807) (hcc : cn ≤ ccap) (hc : Accs w CA cn c) (hcok : AccOk c) (hl : n ≤ 9223372036854775807) (ha : Rd w 4 balEnc A n l) (hcur : cur.size ≤ 9223372036854775807)
    (hfit : kdE c l ent cur = 0 → ∀ k, k < 6 → in64 (ksum c l ent cur k) = true) :
    Calls Tryz.prog 94 #[.slice CA cn ccap, .slice A n cap, .int .i64 ent, .string cur] w fun e w' =>
      ∃ f, e = .returned (.tuple #[aggK f, errV (kdE c l ent cur)]) ∧ (kdE c l ent cur = 0 → f = ksum c l ent cur) ∧ Below w.heap.size w w' := by
  obtain ⟨i0, hi0, hz0, hz1, hz2⟩ := info_parts int_info2
  have Hn := hide ha.1
  have Hc := hide hc.1
  have hB0 : Below w.heap.size w (w.alloc (.cells #[.int .i64 0, .int .i64 0, .int .i64 0, .int .i64 0, .int .i64 0, .int .i64 0] 144)) := (Below.refl _ _).alloc (Nat.le_refl _) _
  have hrow0 : VRow (w.alloc (.cells #[.int .i64 0, .int .i64 0, .int .i64 0, .int .i64 0, .int .i64 0, .int .i64 0] 144)) w.heap.size 144 6 (fun _ => .int .i64 0) := VRow.made w 144 6 (.int .i64 0)
  by_cases h1 : rcE c l ent = 0
  · cases h2 : curB cur with
    | true =>
      by_cases h3 : amtE c l ent cur = 0
      · have HK := hide ((kdE_3 h1 h2).trans h3)
        have HF := hide (hfit HK.out)
        obtain ⟨hce, hbe, hen⟩ := rcE_0 h1
        have h60 : cn ≤ 60 := by have := chartE_len hce; have := Hc.out; omega
        have h200 : n ≤ 200 := by have := (balsE_0 hbe).1; have := Hn.out; omega
        have H1 := hide h1
        have H2 := hide h2
        have H3 := hide h3
        have HCE := hide hce
        have HBE := hide hbe
        clear h1 h2 h3 hce hbe hen hfit
        go_enter Tryz.func94, Tryz.ntmps94
        go_wp2_with fail
        generalize w.alloc (.cells #[.int .i64 0, .int .i64 0, .int .i64 0, .int .i64 0, .int .i64 0, .int .i64 0] 144) = W0 at hB0 hrow0 ⊢
        refine (rcheck_any c _ _ _ l _ _ _ ent _ hcl hcc (hc.below hB0) hcok hl (ha.below hB0)).mono ?_
        rintro e w1 ⟨rfl, hb1⟩
        rw [errV_0 H1.out]
        have hrow1 := hrow0.below hb1
        have hb1 := bthen hB0 (Nat.le_refl _) hb1
        go_wp2_with fail
        refine (cur_any cur _ hcur).mono ?_
        rintro e w2 ⟨rfl, hb2⟩
        rw [H2.out]
        have hrow2 := hrow1.below hb2
        have hb2 := bthen hb1 (Nat.le_refl _) hb2
        go_wp2_with fail
        refine (amounts_any c _ _ _ l _ _ _ ent cur _ (by omega) (hc.below hb2) (by omega) (ha.below hb2)).mono ?_
        rintro e w3 ⟨v3, rfl, hown3, hb3⟩
        rw [if_pos H3.out] at hown3
        rw [errV_0 H3.out]
        have hrow3 := hrow2.below hb3
        have hb3 := bthen hb2 (Nat.le_refl _) hb3
        obtain ⟨VA, vc, rfl, hvc, hvm⟩ := hown3.form
        have hal := amtTo_len (c := c) (l := l) (ent := ent) (cur := cur) n
        rw [hal, Hc.out] at hown3 ⊢
        have hrd3 := hown3.rd intEnc2_ok
        have hal2 : (amtTo c l ent cur n).length = cn := by rw [hal, Hc.out]
        clear hown3 hvc hal hrow0 hrow1 hrow2
        have hi64 := amt_ints (c := c) (ent := ent) (cur := cur) HBE.out n
        have HSU : Hid (∀ k, k < 6 → in64 (kindTo c (amtTo c l ent cur n) cn k).sum = true) := fun k hk => by have := HF.out k hk; unfold ksum at this; rw [Hn.out, Hc.out] at this; exact this
        have HKS : Hid (∀ k, ksum c l ent cur k = (kindTo c (amtTo c l ent cur n) cn k).sum) := fun k => by unfold ksum; rw [Hn.out, Hc.out]
        generalize amtTo c l ent cur n = am at hrd3 hal2 hi64 HSU HKS
        go_wp2_with fail
        have hsz3 := hb3.size
        have hS0 : Six (w3.alloc (.cells #[.slice none 0 0, .slice none 0 0, .slice none 0 0, .slice none 0 0, .slice none 0 0, .slice none 0 0] 187)) w3.heap.size (w3.heap.size + 1) (fun _ => .slice none 0 0) (fun k => kindTo c am 0 k) :=
          ⟨VRow.made w3 187 6 (.slice none 0 0), fun k _ => Own.nil _ _ _ _ _, fun k j b _ _ _ (e : Value.ownBlock (.slice none 0 0) = some b) => (by cases e), Nat.lt_succ_self _⟩
        have hb4 : Below w3.heap.size w3 (w3.alloc (.cells #[.slice none 0 0, .slice none 0 0, .slice none 0 0, .slice none 0 0, .slice none 0 0, .slice none 0 0] 187)) := (Below.refl _ _).alloc (Nat.le_refl _) _
        generalize (w3.alloc (.cells #[.slice none 0 0, .slice none 0 0, .slice none 0 0, .slice none 0 0, .slice none 0 0, .slice none 0 0] 187)) = w4 at hS0 hb4 ⊢
        go_loopw [44] (fun iv wr => ∃ (i : Nat) (vs : Nat → Value), i ≤ cn ∧ iv = .int .i64 i ∧ Six wr w3.heap.size (w3.heap.size + 1) vs (fun k => kindTo c am i k) ∧ Below w3.heap.size w3 wr) (fun iv _ => cn - (intOf iv).toNat)
        case atStart => exact ⟨0, _, by omega, rfl, hS0, hb4⟩
        case round =>
          obtain ⟨i, vs, hi, rfl, hsx, hbr⟩ := hrel
          have hsz3 := hb3.size
          by_cases hlt : i < cn
          · have hil : i < c.length := by have := Hc.out; omega
            have hia : i < am.length := by omega
            have hgd := ch_good HCE.out i hil
            have hlo := hgd.lo
            have hhi := hgd.hi
            clear hgd
            have HSX := hide (kindTo_succ (c := c) (am := am) · hil hia)
            obtain ⟨kd, hkd⟩ : ∃ kd : Nat, c[i].kind = (kd : Int) := ⟨c[i].kind.toNat, by omega⟩
            have k6 : kd < 6 := by omega
            have k0 : (0 : Int) ≤ (kd : Int) := by omega
            have k1 : (kd : Int) < 6 := by omega
            have i0' : (0 : Int) ≤ (i : Int) := by omega
            have i1' : (i : Int) < (cn : Int) := by omega
            clear hlo hhi
            obtain ⟨cb, coff, rfl, hcs⟩ := Accs.at_ hc (by omega)
            have q2 := (hcs i hil).2.2.1
            rw [hkd] at q2
            have hcb : cb < w.heap.size := World.block_lt_of_cell? _ _ q2
            have q2 := below_cell (bthen hb3 (Nat.le_refl _) hbr) hcb q2
            clear hcs
            obtain ⟨vb, voff, rfl, hvs⟩ := (Rd.below hrd3 hbr).2 (by omega)
            have p0 := hvs i 0 _ hia rfl
            clear hvs
            have HKD := hide hkd
            clear hkd
            obtain ⟨av, hav⟩ : ∃ av, av = am[i] := ⟨_, rfl⟩
            rw [← hav, Nat.mul_one, Nat.add_zero] at p0
            have HAV := hide hav
            clear hav
            have hrk := hsx.row.cell kd k6
            have hown := hsx.own kd k6
            have hkl : (kindTo c am i kd).length ≤ 60 := Nat.le_trans (kindTo_len c am i kd) (by omega)
            go_wp2_with fail
            obtain ⟨j1, hj1, hx0, hx1, hx2⟩ := info_parts int_info2
            have hne : (vs kd).ownBlock ≠ some w3.heap.size := fun e => by have := (hown.block _ e).1; omega
            have hGlt := hsx.row.lt
            have hd5 : (wr.alloc (.cells #[.int .i64 av] 3)).drew.cell? ⟨w3.heap.size, kd, none⟩ = some (vs kd) := cell?_alloc_keep hrk
            have hq5 : (wr.alloc (.cells #[.int .i64 av] 3)).drew.cell? ⟨cb, coff + i * 5 + 2, none⟩ = some (.int .i64 (kd : Int)) := cell?_alloc_keep q2
            have hf5 : (wr.alloc (.cells #[.int .i64 av] 3)).drew.frozen? ⟨w3.heap.size, kd, none⟩ = false := frozen_alloc_keep hGlt (hsx.row.frozen kd)
            have hG5 : w3.heap.size < (wr.alloc (.cells #[.int .i64 av] 3)).drew.heap.size := by show _ < (wr.alloc _).heap.size; simp; omega
            go_region_law (first | (go_loud (refine step_pushJ _ rfl _ _ 42 rfl (w3.heap.size + 1) 3 j1 (.int .i64 0) 1 8 Tryz.underlying42 hj1 hx0 hx1 hx2 rfl (by decide) intEnc2_ok (vs kd) (kindTo c am i kd) (by simp [Act.eval]) (hown.alloc _) _ 1 1 [av] (by simp [Act.eval]) (Rd.boxedAt _ intEnc2_ok av _ _ rfl _ rfl) (by intro h; cases h) (by simp [maxLen]; omega) (by omega) (by simp; omega) ?_); intro v' w5 hown5 hg5 hat5; have c5 := hg5.cell hd5 (fun e => hne e.symm); have f5 := frozen_grown hf5 hG5 hg5 hne; have q5 := hg5.cell hq5 (fun (e : some cb = (vs kd).ownBlock) => by have h7 := (hown.block _ e.symm).1; have h8 := hb3.size; omega); obtain ⟨VA5, vc5, rfl, hvc5, hvm5⟩ := hown5.form))
            all_goals go_wp2_with fail
            all_goals
              have e1 : (kindTo c am i kd ++ [av]).length = (kindTo c am i kd).length + 1 := by simp
              rw [e1] at hown5 hat5
              have hF1 : kindTo c am (i + 1) kd = kindTo c am i kd ++ [av] := by rw [HSX.out kd, if_pos HKD.out, ← HAV.out]
              rw [← hF1] at hown5
              refine ⟨⟨i + 1, _, by omega, by go_num, Six.push (w1 := (wr.alloc (.cells #[.int .i64 av] 3)).drew) (F' := fun k => kindTo c am (i + 1) k) hsx k6 (only_below (only_refl wr none) (((Below.refl wr.heap.size wr).alloc (Nat.le_refl _) _).drew)) hown5 hg5 hat5 (fun j _ hj => by rw [HSX.out j, if_neg (by rw [HKD.out]; omega), List.append_nil]), (((hbr.alloc hbr.size _).drew).grown hg5 (by omega) (fun q e => by have := (hown.block q e).1; omega)).setCell (Nat.le_refl _) _⟩, by simp [intOf]; omega⟩
          · have hin : i = cn := by omega
            subst hin
            have hbW := bthen hb3 (Nat.le_refl _) hbr
            have hrow := hrow3.below hbr
            have c0 := hsx.row.cell 0 (by omega)
            have c1 := hsx.row.cell 1 (by omega)
            have c2 := hsx.row.cell 2 (by omega)
            have c3 := hsx.row.cell 3 (by omega)
            have c4 := hsx.row.cell 4 (by omega)
            have c5 := hsx.row.cell 5 (by omega)
            have HOW := hide hsx.own
            clear hlt hS0 hb4 hsx
            go_wp2_with fail
            go_loopw [67] (fun kv wi => ∃ k : Nat, k ≤ 6 ∧ kv = .int .i64 k ∧ VRow wi w.heap.size 144 6 (fun j => .int .i64 (if j < k then (kindTo c am i j).sum else 0)) ∧ wr.grownBy wi (some w.heap.size)) (fun kv _ => 6 - (intOf kv).toNat)
            case atStart => exact ⟨0, by omega, rfl, hrow, only_refl _ _⟩
            case round =>
              obtain ⟨k, hk, rfl, hrk, hgk⟩ := hrel
--SIX{
              rcases (show k = 0 ∨ k = 1 ∨ k = 2 ∨ k = 3 ∨ k = 4 ∨ k = 5 ∨ k = 6 by omega) with rfl | rfl | rfl | rfl | rfl | rfl | rfl
              · have hO := (HOW.out 0 (by omega)).grown hgk (.inr fun e => by have h7 := ((HOW.out 0 (by omega)).block _ e).1; have h8 := hb3.size; omega)
                obtain ⟨A1, e1, hv1, _, _⟩ := hO.form
                rw [hv1] at hO
                have hrd := hO.rd intEnc2_ok
                have hle := kindTo_len c am i 0
                have hin := HSU.out 0 (by omega)
                have hSV : smV (kindTo c am i 0).sum = (kindTo c am i 0).sum := if_pos hin
                have hSE := errV_0 (e := smE (kindTo c am i 0).sum) (if_pos hin)
                have hi6 := kindTo_ints (c := c) hi64 i 0
                have HS1 := hide hSV
                have HS2 := hide hSE
                have hms := msum_any _ A1 _ e1 _ hrd (by omega) hi6
                rw [← hv1] at hms
                have HMS := hide hms
                clear hO hin hSV hSE hv1 hms
                have hix : ∀ w : World, (Instr.index 187 (.agg #[vs 0, vs 1, vs 2, vs 3, vs 4, vs 5]) (.int .i64 0)).run Tryz.prog w = .ok (vs 0) w := fun w => six0 _ _ _ _ _ _ w
                go_wp2_with fail
                refine HMS.out.mono ?_
                rintro e w5 ⟨rfl, hb5⟩
                rw [HS1.out, HS2.out]
                clear hrd hi6
                have hr5 := hrk.below hb5
                have hc5 := hr5.cell 0 (by omega)
                have hf5 := hr5.frozen 0
                go_wp2_with fail
                go_roundw
                case rel => exact ⟨1, by omega, by go_num, row_step (k := 0) (F := fun j => (kindTo c am i j).sum) hr5, only_setCell (only_below hgk hb5) _ _⟩
                case measure => simp [intOf]
              · have hO := (HOW.out 1 (by omega)).grown hgk (.inr fun e => by have h7 := ((HOW.out 1 (by omega)).block _ e).1; have h8 := hb3.size; omega)
                obtain ⟨A1, e1, hv1, _, _⟩ := hO.form
                rw [hv1] at hO
                have hrd := hO.rd intEnc2_ok
                have hle := kindTo_len c am i 1
                have hin := HSU.out 1 (by omega)
                have hSV : smV (kindTo c am i 1).sum = (kindTo c am i 1).sum := if_pos hin
                have hSE := errV_0 (e := smE (kindTo c am i 1).sum) (if_pos hin)
                have hi6 := kindTo_ints (c := c) hi64 i 1
                have HS1 := hide hSV
                have HS2 := hide hSE
                have hms := msum_any _ A1 _ e1 _ hrd (by omega) hi6
                rw [← hv1] at hms
                have HMS := hide hms
                clear hO hin hSV hSE hv1 hms
                have hix : ∀ w : World, (Instr.index 187 (.agg #[vs 0, vs 1, vs 2, vs 3, vs 4, vs 5]) (.int .i64 1)).run Tryz.prog w = .ok (vs 1) w := fun w => six1 _ _ _ _ _ _ w
                go_wp2_with fail
                refine HMS.out.mono ?_
                rintro e w5 ⟨rfl, hb5⟩
                rw [HS1.out, HS2.out]
                clear hrd hi6
                have hr5 := hrk.below hb5
                have hc5 := hr5.cell 1 (by omega)
                have hf5 := hr5.frozen 1
                go_wp2_with fail
                go_roundw
                case rel => exact ⟨2, by omega, by go_num, row_step (k := 1) (F := fun j => (kindTo c am i j).sum) hr5, only_setCell (only_below hgk hb5) _ _⟩
                case measure => simp [intOf]
              · have hO := (HOW.out 2 (by omega)).grown hgk (.inr fun e => by have h7 := ((HOW.out 2 (by omega)).block _ e).1; have h8 := hb3.size; omega)
                obtain ⟨A1, e1, hv1, _, _⟩ := hO.form
                rw [hv1] at hO
                have hrd := hO.rd intEnc2_ok
                have hle := kindTo_len c am i 2
                have hin := HSU.out 2 (by omega)
                have hSV : smV (kindTo c am i 2).sum = (kindTo c am i 2).sum := if_pos hin
                have hSE := errV_0 (e := smE (kindTo c am i 2).sum) (if_pos hin)
                have hi6 := kindTo_ints (c := c) hi64 i 2
                have HS1 := hide hSV
                have HS2 := hide hSE
                have hms := msum_any _ A1 _ e1 _ hrd (by omega) hi6
                rw [← hv1] at hms
                have HMS := hide hms
                clear hO hin hSV hSE hv1 hms
                have hix : ∀ w : World, (Instr.index 187 (.agg #[vs 0, vs 1, vs 2, vs 3, vs 4, vs 5]) (.int .i64 2)).run Tryz.prog w = .ok (vs 2) w := fun w => six2 _ _ _ _ _ _ w
                go_wp2_with fail
                refine HMS.out.mono ?_
                rintro e w5 ⟨rfl, hb5⟩
                rw [HS1.out, HS2.out]
                clear hrd hi6
                have hr5 := hrk.below hb5
                have hc5 := hr5.cell 2 (by omega)
                have hf5 := hr5.frozen 2
                go_wp2_with fail
                go_roundw
                case rel => exact ⟨3, by omega, by go_num, row_step (k := 2) (F := fun j => (kindTo c am i j).sum) hr5, only_setCell (only_below hgk hb5) _ _⟩
                case measure => simp [intOf]
              · have hO := (HOW.out 3 (by omega)).grown hgk (.inr fun e => by have h7 := ((HOW.out 3 (by omega)).block _ e).1; have h8 := hb3.size; omega)
                obtain ⟨A1, e1, hv1, _, _⟩ := hO.form
                rw [hv1] at hO
                have hrd := hO.rd intEnc2_ok
                have hle := kindTo_len c am i 3
                have hin := HSU.out 3 (by omega)
                have hSV : smV (kindTo c am i 3).sum = (kindTo c am i 3).sum := if_pos hin
                have hSE := errV_0 (e := smE (kindTo c am i 3).sum) (if_pos hin)
                have hi6 := kindTo_ints (c := c) hi64 i 3
                have HS1 := hide hSV
                have HS2 := hide hSE
                have hms := msum_any _ A1 _ e1 _ hrd (by omega) hi6
                rw [← hv1] at hms
                have HMS := hide hms
                clear hO hin hSV hSE hv1 hms
                have hix : ∀ w : World, (Instr.index 187 (.agg #[vs 0, vs 1, vs 2, vs 3, vs 4, vs 5]) (.int .i64 3)).run Tryz.prog w = .ok (vs 3) w := fun w => six3 _ _ _ _ _ _ w
                go_wp2_with fail
                refine HMS.out.mono ?_
                rintro e w5 ⟨rfl, hb5⟩
                rw [HS1.out, HS2.out]
                clear hrd hi6
                have hr5 := hrk.below hb5
                have hc5 := hr5.cell 3 (by omega)
                have hf5 := hr5.frozen 3
                go_wp2_with fail
                go_roundw
                case rel => exact ⟨4, by omega, by go_num, row_step (k := 3) (F := fun j => (kindTo c am i j).sum) hr5, only_setCell (only_below hgk hb5) _ _⟩
                case measure => simp [intOf]
              · have hO := (HOW.out 4 (by omega)).grown hgk (.inr fun e => by have h7 := ((HOW.out 4 (by omega)).block _ e).1; have h8 := hb3.size; omega)
                obtain ⟨A1, e1, hv1, _, _⟩ := hO.form
                rw [hv1] at hO
                have hrd := hO.rd intEnc2_ok
                have hle := kindTo_len c am i 4
                have hin := HSU.out 4 (by omega)
                have hSV : smV (kindTo c am i 4).sum = (kindTo c am i 4).sum := if_pos hin
                have hSE := errV_0 (e := smE (kindTo c am i 4).sum) (if_pos hin)
                have hi6 := kindTo_ints (c := c) hi64 i 4
                have HS1 := hide hSV
                have HS2 := hide hSE
                have hms := msum_any _ A1 _ e1 _ hrd (by omega) hi6
                rw [← hv1] at hms
                have HMS := hide hms
                clear hO hin hSV hSE hv1 hms
                have hix : ∀ w : World, (Instr.index 187 (.agg #[vs 0, vs 1, vs 2, vs 3, vs 4, vs 5]) (.int .i64 4)).run Tryz.prog w = .ok (vs 4) w := fun w => six4 _ _ _ _ _ _ w
                go_wp2_with fail
                refine HMS.out.mono ?_
                rintro e w5 ⟨rfl, hb5⟩
                rw [HS1.out, HS2.out]
                clear hrd hi6
                have hr5 := hrk.below hb5
                have hc5 := hr5.cell 4 (by omega)
                have hf5 := hr5.frozen 4
                go_wp2_with fail
                go_roundw
                case rel => exact ⟨5, by omega, by go_num, row_step (k := 4) (F := fun j => (kindTo c am i j).sum) hr5, only_setCell (only_below hgk hb5) _ _⟩
                case measure => simp [intOf]
              · have hO := (HOW.out 5 (by omega)).grown hgk (.inr fun e => by have h7 := ((HOW.out 5 (by omega)).block _ e).1; have h8 := hb3.size; omega)
                obtain ⟨A1, e1, hv1, _, _⟩ := hO.form
                rw [hv1] at hO
                have hrd := hO.rd intEnc2_ok
                have hle := kindTo_len c am i 5
                have hin := HSU.out 5 (by omega)
                have hSV : smV (kindTo c am i 5).sum = (kindTo c am i 5).sum := if_pos hin
                have hSE := errV_0 (e := smE (kindTo c am i 5).sum) (if_pos hin)
                have hi6 := kindTo_ints (c := c) hi64 i 5
                have HS1 := hide hSV
                have HS2 := hide hSE
                have hms := msum_any _ A1 _ e1 _ hrd (by omega) hi6
                rw [← hv1] at hms
                have HMS := hide hms
                clear hO hin hSV hSE hv1 hms
                have hix : ∀ w : World, (Instr.index 187 (.agg #[vs 0, vs 1, vs 2, vs 3, vs 4, vs 5]) (.int .i64 5)).run Tryz.prog w = .ok (vs 5) w := fun w => six5 _ _ _ _ _ _ w
                go_wp2_with fail
                refine HMS.out.mono ?_
                rintro e w5 ⟨rfl, hb5⟩
                rw [HS1.out, HS2.out]
                clear hrd hi6
                have hr5 := hrk.below hb5
                have hc5 := hr5.cell 5 (by omega)
                have hf5 := hr5.frozen 5
                go_wp2_with fail
                go_roundw
                case rel => exact ⟨6, by omega, by go_num, row_step (k := 5) (F := fun j => (kindTo c am i j).sum) hr5, only_setCell (only_below hgk hb5) _ _⟩
                case measure => simp [intOf]
              · have hbE := hbW.grown hgk hbW.size (fun q e => by injection e with e; omega)
                have k0 := hrk.cell 0 (by omega)
                have k1 := hrk.cell 1 (by omega)
                have k2 := hrk.cell 2 (by omega)
                have k3 := hrk.cell 3 (by omega)
                have k4 := hrk.cell 4 (by omega)
                have k5 := hrk.cell 5 (by omega)
                have kf := fun j => hrk.frozen j
                clear hrow hrow3
                go_wp2_with fail
                have hrf := ((((((hrk.set_ 0 (.int .i64 (kindTo c am i 0).sum)).set_ 1 (.int .i64 (kindTo c am i 1).sum)).set_ 2 (.int .i64 (kindTo c am i 2).sum)).set_ 3 (.int .i64 (kindTo c am i 3).sum)).set_ 4 (.int .i64 (kindTo c am i 4).sum)).set_ 5 (.int .i64 (kindTo c am i 5).sum))
                refine bodyPost_ret (v := .tuple #[aggK (fun k => (kindTo c am i k).sum), .nilIface]) ?_ rfl ⟨_, by rw [errV_0 HK.out], fun _ => (funext HKS.out).symm, ?_⟩
                · exact ret_row (fn := Tryz.f94) (p := 8) (u := 9) (by rfl) (by rfl) (hrf.congr (F' := fun k => .int .i64 (kindTo c am i k).sum) (fun j hj => by rcases (show j = 0 ∨ j = 1 ∨ j = 2 ∨ j = 3 ∨ j = 4 ∨ j = 5 by omega) with rfl | rfl | rfl | rfl | rfl | rfl <;> rfl)) Tryz.underlying144 six_info
                · exact (((((hbE.setCell (Nat.le_refl _) _).setCell (Nat.le_refl _) _).setCell (Nat.le_refl _) _).setCell (Nat.le_refl _) _).setCell (Nat.le_refl _) _).setCell (Nat.le_refl _) _
--SIX}
      · have HK := hide (kdE_3 h1 h2)
        have HN := hide h3
        have HKN : Hid (¬ kdE c l ent cur = 0) := by show ¬ _; rw [HK.out]; exact h3
        obtain ⟨hce, hbe, hen⟩ := rcE_0 h1
        have h60 : cn ≤ 60 := by have := chartE_len hce; have := Hc.out; omega
        have h200 : n ≤ 200 := by have := (balsE_0 hbe).1; have := Hn.out; omega
        have H1 := hide h1
        have H2 := hide h2
        clear h1 h2 h3 hce hbe hen hfit
        go_enter Tryz.func94, Tryz.ntmps94
        go_wp2_with fail
        generalize w.alloc (.cells #[.int .i64 0, .int .i64 0, .int .i64 0, .int .i64 0, .int .i64 0, .int .i64 0] 144) = W0 at hB0 hrow0 ⊢
        refine (rcheck_any c _ _ _ l _ _ _ ent _ hcl hcc (hc.below hB0) hcok hl (ha.below hB0)).mono ?_
        rintro e w1 ⟨rfl, hb1⟩
        rw [errV_0 H1.out]
        have hrow1 := hrow0.below hb1
        have hb1 := bthen hB0 (Nat.le_refl _) hb1
        go_wp2_with fail
        refine (cur_any cur _ hcur).mono ?_
        rintro e w2 ⟨rfl, hb2⟩
        rw [H2.out]
        have hrow2 := hrow1.below hb2
        have hb2 := bthen hb1 (Nat.le_refl _) hb2
        go_wp2_with fail
        refine (amounts_any c _ _ _ l _ _ _ ent cur _ (by omega) (hc.below hb2) (by omega) (ha.below hb2)).mono ?_
        rintro e w3 ⟨v3, rfl, hown3, hb3⟩
        rw [errV_n HN.out]
        clear hown3
        have hrow3 := hrow2.below hb3
        have hb3 := bthen hb2 (Nat.le_refl _) hb3
        clear hrow0 hrow1 hrow2
        have k0 := hrow3.cell 0 (by omega)
        have k1 := hrow3.cell 1 (by omega)
        have k2 := hrow3.cell 2 (by omega)
        have k3 := hrow3.cell 3 (by omega)
        have k4 := hrow3.cell 4 (by omega)
        have k5 := hrow3.cell 5 (by omega)
        have kf := fun j => hrow3.frozen j
        go_wp2_with fail
        have hrf := ((((((hrow3.set_ 0 (.int .i64 0)).set_ 1 (.int .i64 0)).set_ 2 (.int .i64 0)).set_ 3 (.int .i64 0)).set_ 4 (.int .i64 0)).set_ 5 (.int .i64 0))
        refine bodyPost_ret (v := .tuple #[aggK (fun _ => 0), .iface 108 (.int .i64 (amtE c l ent cur))]) ?_ rfl ⟨_, by rw [HK.out, errV_n HN.out], fun h => absurd h HKN.out, ?_⟩
        · exact ret_row (fn := Tryz.f94) (p := 8) (u := 9) (by rfl) (by rfl) (hrf.congr (F' := fun k => .int .i64 0) (fun j hj => by rcases (show j = 0 ∨ j = 1 ∨ j = 2 ∨ j = 3 ∨ j = 4 ∨ j = 5 by omega) with rfl | rfl | rfl | rfl | rfl | rfl <;> rfl)) Tryz.underlying144 six_info
        · exact (((((hb3.setCell (Nat.le_refl _) _).setCell (Nat.le_refl _) _).setCell (Nat.le_refl _) _).setCell (Nat.le_refl _) _).setCell (Nat.le_refl _) _).setCell (Nat.le_refl _) _
    | false =>
      have HK := hide (kdE_2 h1 h2)
      have HKN : Hid (¬ kdE c l ent cur = 0) := by show ¬ _; rw [HK.out]; decide
      have H1 := hide h1
      have H2 := hide h2
      clear h1 h2 hfit
      go_enter Tryz.func94, Tryz.ntmps94
      go_wp2_with fail
      generalize w.alloc (.cells #[.int .i64 0, .int .i64 0, .int .i64 0, .int .i64 0, .int .i64 0, .int .i64 0] 144) = W0 at hB0 hrow0 ⊢
      refine (rcheck_any c _ _ _ l _ _ _ ent _ hcl hcc (hc.below hB0) hcok hl (ha.below hB0)).mono ?_
      rintro e w1 ⟨rfl, hb1⟩
      rw [errV_0 H1.out]
      have hrow1 := hrow0.below hb1
      have hb1 := bthen hB0 (Nat.le_refl _) hb1
      go_wp2_with fail
      refine (cur_any cur _ hcur).mono ?_
      rintro e w2 ⟨rfl, hb2⟩
      rw [H2.out]
      have hrow2 := hrow1.below hb2
      have hb2 := bthen hb1 (Nat.le_refl _) hb2
      clear hrow0 hrow1
      have k0 := hrow2.cell 0 (by omega)
      have k1 := hrow2.cell 1 (by omega)
      have k2 := hrow2.cell 2 (by omega)
      have k3 := hrow2.cell 3 (by omega)
      have k4 := hrow2.cell 4 (by omega)
      have k5 := hrow2.cell 5 (by omega)
      have kf := fun j => hrow2.frozen j
      go_wp2_with fail
      have hrf := ((((((hrow2.set_ 0 (.int .i64 0)).set_ 1 (.int .i64 0)).set_ 2 (.int .i64 0)).set_ 3 (.int .i64 0)).set_ 4 (.int .i64 0)).set_ 5 (.int .i64 0))
      refine bodyPost_ret (v := .tuple #[aggK (fun _ => 0), .iface 108 (.int .i64 2)]) ?_ rfl ⟨_, by rw [HK.out]; rfl, fun h => absurd h HKN.out, ?_⟩
      · exact ret_row (fn := Tryz.f94) (p := 8) (u := 9) (by rfl) (by rfl) (hrf.congr (F' := fun k => .int .i64 0) (fun j hj => by rcases (show j = 0 ∨ j = 1 ∨ j = 2 ∨ j = 3 ∨ j = 4 ∨ j = 5 by omega) with rfl | rfl | rfl | rfl | rfl | rfl <;> rfl)) Tryz.underlying144 six_info
      · exact (((((hb2.setCell (Nat.le_refl _) _).setCell (Nat.le_refl _) _).setCell (Nat.le_refl _) _).setCell (Nat.le_refl _) _).setCell (Nat.le_refl _) _).setCell (Nat.le_refl _) _
  · have HK := hide (kdE_1 (cur := cur) h1)
    have HN := hide h1
    have HKN : Hid (¬ kdE c l ent cur = 0) := by show ¬ _; rw [HK.out]; exact h1
    clear h1 hfit
    go_enter Tryz.func94, Tryz.ntmps94
    go_wp2_with fail
    generalize w.alloc (.cells #[.int .i64 0, .int .i64 0, .int .i64 0, .int .i64 0, .int .i64 0, .int .i64 0] 144) = W0 at hB0 hrow0 ⊢
    refine (rcheck_any c _ _ _ l _ _ _ ent _ hcl hcc (hc.below hB0) hcok hl (ha.below hB0)).mono ?_
    rintro e w1 ⟨rfl, hb1⟩
    rw [errV_n HN.out]
    have hrow1 := hrow0.below hb1
    have hb1 := bthen hB0 (Nat.le_refl _) hb1
    clear hrow0
    have k0 := hrow1.cell 0 (by omega)
    have k1 := hrow1.cell 1 (by omega)
    have k2 := hrow1.cell 2 (by omega)
    have k3 := hrow1.cell 3 (by omega)
    have k4 := hrow1.cell 4 (by omega)
    have k5 := hrow1.cell 5 (by omega)
    have kf := fun j => hrow1.frozen j
    go_wp2_with fail
    have hrf := ((((((hrow1.set_ 0 (.int .i64 0)).set_ 1 (.int .i64 0)).set_ 2 (.int .i64 0)).set_ 3 (.int .i64 0)).set_ 4 (.int .i64 0)).set_ 5 (.int .i64 0))
    refine bodyPost_ret (v := .tuple #[aggK (fun _ => 0), .iface 108 (.int .i64 (rcE c l ent))]) ?_ rfl ⟨_, by rw [HK.out, errV_n HN.out], fun h => absurd h HKN.out, ?_⟩
    · exact ret_row (fn := Tryz.f94) (p := 8) (u := 9) (by rfl) (by rfl) (hrf.congr (F' := fun k => .int .i64 0) (fun j hj => by rcases (show j = 0 ∨ j = 1 ∨ j = 2 ∨ j = 3 ∨ j = 4 ∨ j = 5 by omega) with rfl | rfl | rfl | rfl | rfl | rfl <;> rfl)) Tryz.underlying144 six_info
    · exact (((((hb1.setCell (Nat.le_refl _) _).setCell (Nat.le_refl _) _).setCell (Nat.le_refl _) _).setCell (Nat.le_refl _) _).setCell (Nat.le_refl _) _).setCell (Nat.le_refl _) _
end Go.Proofs.YthmjkhlndphldaaGreatDoor

namespace Go.Proofs.YthmjkhlndphldaaGreatDoor
open Go Go.RowKit
set_option linter.unusedVariables false

theorem results_tmp4 {fn : Func} {t u v x : Tmp} (h : fn.results = #[.tmp t, .tmp u, .tmp v, .tmp x]) (tmps : Array Value) (P : Program) (w : World) :
    (results fn tmps).run P w = .ok (.tuple #[tmps.getD t undef, tmps.getD u undef, tmps.getD v undef, tmps.getD x undef]) w := by
  simp [results, h]

theorem Rd.litS {α : Type} {enc : α → List Value} {w : World} {sz : Nat} (he : Enc sz enc) (l : List α) (n : Nat) (hn : l.length = n) (cs : Array Value) (e : TypeId) (hcs : cs.toList = l.flatMap enc) {g : Nat} (hg : g = w.heap.size) : Rd (w.alloc (.cells cs e)) sz enc (some ⟨g, 0, none⟩) n l := by
  subst hg; exact Rd.lit w he l n hn cs e hcs

theorem madd_wide (x y : Int) (w : World) (hx : -4000000000000000000 ≤ x ∧ x ≤ 4000000000000000000) (hy : -4000000000000000000 ≤ y ∧ y ≤ 4000000000000000000) :
    Calls Tryz.prog 95 #[.int .i64 x, .int .i64 y] w fun e w' => e = .returned (.tuple #[.int .i64 (x + y), .nilIface]) ∧ Below w.heap.size w w' := by
  have hs : ([x, y] : List Int).sum = x + y := by simp
  have hin : in64 (x + y) = true := in64_yes _ (by omega)
  have HS : Hid (smV ([x, y] : List Int).sum = x + y ∧ smE ([x, y] : List Int).sum = 0) := by
    show _ ∧ _
    rw [hs]
    exact ⟨if_pos hin, if_pos hin⟩
  have h64 : Ints64 [x, y] := by
    intro z hz
    simp at hz
    rcases hz with rfl | rfl <;> omega
  clear hs hin
  go_enter Tryz.func95, Tryz.ntmps95
  go_wp2_with fail
  refine (msum_any [x, y] _ 2 2 _ (Rd.lit _ intEnc2_ok [x, y] 2 rfl _ _ rfl) (by omega) h64).mono ?_
  rintro e w1 ⟨rfl, hb1⟩
  rw [HS.out.1, HS.out.2, errV_0 rfl]
  go_wp2_with fail
  go_ret2
  exact ⟨rfl, bof_alloc hb1⟩

/-- no account kind has more than this -/
def Wide (x : Int) : Prop := -1200000000000000000 ≤ x ∧ x ≤ 1200000000000000000
theorem Wide.in64 {x : Int} (h : Wide x) : in64 x = true := in64_yes _ (by unfold Wide at h; omega)

/-- what Income returns -/
def incV (c : List Acc) (l : List Bal) (ent : Int) (cur : ByteArray) : Value :=
  if kdE c l ent cur = 0 then .tuple #[.int .i64 (-(ksum c l ent cur 4)), .int .i64 (ksum c l ent cur 5), .int .i64 (-(ksum c l ent cur 4) - ksum c l ent cur 5), .nilIface]
  else .tuple #[.int .i64 0, .int .i64 0, .int .i64 0, errV (kdE c l ent cur)]
/-- what Sheet returns -/
def sheV (c : List Acc) (l : List Bal) (ent : Int) (cur : ByteArray) : Value :=
  if kdE c l ent cur = 0 then .tuple #[.int .i64 (ksum c l ent cur 1), .int .i64 (-(ksum c l ent cur 2)), .int .i64 (-(ksum c l ent cur 3) - ksum c l ent cur 4 - ksum c l ent cur 5), .nilIface]
  else .tuple #[.int .i64 0, .int .i64 0, .int .i64 0, errV (kdE c l ent cur)]

set_option maxHeartbeats 1000000 in
set_option maxRecDepth 100000 in
theorem income_any (c : List Acc) (CA : Option Addr) (cn ccap : Nat) (l : List Bal) (A : Option Addr) (n cap : Nat) (ent : Int) (cur : ByteArray) (w : World) (hcl : cn ≤ 9223372036854775807) (hcc : cn ≤ ccap) (hc : Accs w CA cn c) (hcok : AccOk c) (hl : n ≤ 9223372036854775807) (ha : Rd w 4 balEnc A n l) (hcur : cur.size ≤ 9223372036854775807)
    (hfit : kdE c l ent cur = 0 → ∀ k, k < 6 → Wide (ksum c l ent cur k)) :
    Calls Tryz.prog 37 #[.slice CA cn ccap, .slice A n cap, .int .i64 ent, .string cur] w fun e w' => e = .returned (incV c l ent cur) ∧ Below w.heap.size w w' := by
  by_cases h : kdE c l ent cur = 0
  · have H := hide h
    have h4 := hfit h 4 (by omega)
    have h5 := hfit h 5 (by omega)
    have HF : Hid (∀ k, k < 6 → in64 (ksum c l ent cur k) = true) := fun k hk => (hfit h k hk).in64
    simp only [incV, if_pos h]
    obtain ⟨g, hg⟩ : ∃ g, g = ksum c l ent cur := ⟨_, rfl⟩
    rw [← hg] at h4 h5
    rw [← hg]
    have HG := hide hg
    clear h hfit hg
    unfold Wide at h4 h5
    have hw4 : IntKind.i64.wrap (-(g 4)) = -(g 4) := IntWalk.i64_in _ (by omega)
    have hw5 : IntKind.i64.wrap (-(g 5)) = -(g 5) := IntWalk.i64_in _ (by omega)
    go_enter Tryz.func37, Tryz.ntmps37
    go_wp2_with fail
    refine (kinds_any c _ _ _ l _ _ _ ent cur _ hcl hcc hc hcok hl ha hcur (fun _ => HF.out)).mono ?_
    rintro e w1 ⟨f, rfl, hf, hb1⟩
    have hf := (hf H.out).trans HG.out.symm
    subst hf
    rw [errV_0 H.out]
    unfold aggK
    go_wp2_with fail
    refine (madd_wide 0 (-(f 4)) _ (by omega) (by omega)).mono ?_
    rintro e w2 ⟨rfl, hb2⟩
    rw [Int.zero_add]
    have k5 : w2.cell? ⟨w1.heap.size, 5, none⟩ = some (.int .i64 (f 5)) := below_cell hb2 (by simp) (by simp)
    have hb1 : Below w.heap.size w w2 := bthen (hb1.alloc hb1.size _) (Nat.le_refl _) hb2
    clear hb2
    have e1 : -(f 4) + -(f 5) = -(f 4) - f 5 := by omega
    go_wp2_with fail
    refine (madd_wide (-(f 4)) (-(f 5)) _ (by omega) (by omega)).mono ?_
    rintro e w3 ⟨rfl, hb3⟩
    rw [e1]
    go_wp2_with fail
    refine bodyPost_ret (results_tmp4 rfl _ _ _) rfl ?_
    exact ⟨rfl, bthen hb1 (Nat.le_refl _) hb3⟩
  · have HN := hide h
    simp only [incV, if_neg h]
    clear h hfit
    go_enter Tryz.func37, Tryz.ntmps37
    go_wp2_with fail
    refine (kinds_any c _ _ _ l _ _ _ ent cur _ hcl hcc hc hcok hl ha hcur (fun e => absurd e HN.out)).mono ?_
    rintro e w1 ⟨f, rfl, _, hb1⟩
    rw [errV_n HN.out]
    unfold aggK
    go_wp2_with fail
    refine bodyPost_ret (results_tmp4 rfl _ _ _) rfl ?_
    exact ⟨by rw [errV_n HN.out]; rfl, hb1.alloc hb1.size _⟩

set_option maxHeartbeats 1000000 in
set_option maxRecDepth 100000 in
theorem sheet_any (c : List Acc) (CA : Option Addr) (cn ccap : Nat) (l : List Bal) (A : Option Addr) (n cap : Nat) (ent : Int) (cur : ByteArray) (w : World) (hcl : cn ≤ 9223372036854775807) (hcc : cn ≤ ccap) (hc : Accs w CA cn c) (hcok : AccOk c) (hl : n ≤ 9223372036854775807) (ha : Rd w 4 balEnc A n l) (hcur : cur.size ≤ 9223372036854775807)
    (hfit : kdE c l ent cur = 0 → ∀ k, k < 6 → Wide (ksum c l ent cur k)) :
    Calls Tryz.prog 40 #[.slice CA cn ccap, .slice A n cap, .int .i64 ent, .string cur] w fun e w' => e = .returned (sheV c l ent cur) ∧ Below w.heap.size w w' := by
  by_cases h : kdE c l ent cur = 0
  · have H := hide h
    have h1 := hfit h 1 (by omega)
    have h2 := hfit h 2 (by omega)
    have h3 := hfit h 3 (by omega)
    have h4 := hfit h 4 (by omega)
    have h5 := hfit h 5 (by omega)
    have HF : Hid (∀ k, k < 6 → in64 (ksum c l ent cur k) = true) := fun k hk => (hfit h k hk).in64
    simp only [sheV, if_pos h]
    obtain ⟨g, hg⟩ : ∃ g, g = ksum c l ent cur := ⟨_, rfl⟩
    rw [← hg] at h1 h2 h3 h4 h5
    rw [← hg]
    have HG := hide hg
    clear h hfit hg
    unfold Wide at h1 h2 h3 h4 h5
    have hw2 : IntKind.i64.wrap (-(g 2)) = -(g 2) := IntWalk.i64_in _ (by omega)
    have hw3 : IntKind.i64.wrap (-(g 3)) = -(g 3) := IntWalk.i64_in _ (by omega)
    have hw4 : IntKind.i64.wrap (-(g 4)) = -(g 4) := IntWalk.i64_in _ (by omega)
    have hw5 : IntKind.i64.wrap (-(g 5)) = -(g 5) := IntWalk.i64_in _ (by omega)
    have hs : ([-(g 3), -(g 4), -(g 5)] : List Int).sum = -(g 3) - g 4 - g 5 := by simp; omega
    have hin : in64 (-(g 3) - g 4 - g 5) = true := in64_yes _ (by omega)
    have HS : Hid (smV ([-(g 3), -(g 4), -(g 5)] : List Int).sum = -(g 3) - g 4 - g 5 ∧ smE ([-(g 3), -(g 4), -(g 5)] : List Int).sum = 0) := by
      show _ ∧ _
      rw [hs]
      exact ⟨if_pos hin, if_pos hin⟩
    have H64 : Hid (Ints64 [-(g 3), -(g 4), -(g 5)]) := by
      intro z hz
      simp at hz
      rcases hz with rfl | rfl | rfl <;> omega
    clear hs hin
    go_enter Tryz.func40, Tryz.ntmps40
    go_wp2_with fail
    refine (kinds_any c _ _ _ l _ _ _ ent cur _ hcl hcc hc hcok hl ha hcur (fun _ => HF.out)).mono ?_
    rintro e w1 ⟨f, rfl, hf, hb1⟩
    have hf := (hf H.out).trans HG.out.symm
    subst hf
    rw [errV_0 H.out]
    unfold aggK
    go_wp2_with fail
    refine (msum_any [-(f 3), -(f 4), -(f 5)] _ 3 3 _ (Rd.litS intEnc2_ok [-(f 3), -(f 4), -(f 5)] 3 rfl _ _ rfl (by simp)) (by omega) H64.out).mono ?_
    rintro e w2 ⟨rfl, hb2⟩
    rw [HS.out.1, HS.out.2, errV_0 rfl]
    have k1 : w2.cell? ⟨w1.heap.size, 1, none⟩ = some (.int .i64 (f 1)) := below_cell hb2 (by simp; omega) (cell?_alloc_keep (by simp))
    have k2 : w2.cell? ⟨w1.heap.size, 2, none⟩ = some (.int .i64 (f 2)) := below_cell hb2 (by simp; omega) (cell?_alloc_keep (by simp))
    have hb1 : Below w.heap.size w w2 := bthen ((hb1.alloc hb1.size _).alloc (hb1.alloc hb1.size _).size _) (Nat.le_refl _) hb2
    clear hb2
    go_wp2_with fail
    go_quiet (fail)
    go_wp2_with fail
    refine bodyPost_ret (results_tmp4 rfl _ _ _) rfl ?_
    exact ⟨rfl, bdrewN hb1 _⟩
  · have HN := hide h
    simp only [sheV, if_neg h]
    clear h hfit
    go_enter Tryz.func40, Tryz.ntmps40
    go_wp2_with fail
    refine (kinds_any c _ _ _ l _ _ _ ent cur _ hcl hcc hc hcok hl ha hcur (fun e => absurd e HN.out)).mono ?_
    rintro e w1 ⟨f, rfl, _, hb1⟩
    rw [errV_n HN.out]
    unfold aggK
    go_wp2_with fail
    refine bodyPost_ret (results_tmp4 rfl _ _ _) rfl ?_
    exact ⟨by rw [errV_n HN.out]; rfl, hb1.alloc hb1.size _⟩
end Go.Proofs.YthmjkhlndphldaaGreatDoor

namespace Go.Proofs.YthmjkhlndphldaaGreatDoor
open Go Go.RowKit
set_option linter.unusedVariables false

/-- the law's own chart -/
def acct4 : List Acc := [⟨⟨#[49, 48]⟩, ⟨#[99, 97, 115, 104]⟩, 1, ⟨#[]⟩, true⟩, ⟨⟨#[50, 48]⟩, ⟨#[100, 101, 98, 116]⟩, 2, ⟨#[]⟩, false⟩, ⟨⟨#[51, 48]⟩, ⟨#[107, 101, 112, 116]⟩, 3, ⟨#[]⟩, false⟩, ⟨⟨#[52, 48]⟩, ⟨#[115, 97, 108, 101, 115]⟩, 4, ⟨#[]⟩, false⟩]
theorem chart4_any (w : World) : Calls Tryz.prog 38 #[] w fun e w' => ∃ g, e = .returned (.slice (some ⟨g, 0, none⟩) 4 4) ∧ Accs w' (some ⟨g, 0, none⟩) 4 acct4 ∧ Below w.heap.size w w' := by
  go_enter Tryz.func38, Tryz.ntmps38
  go_wp2_with fail
  go_ret
  exact ⟨_, rfl, Rd.lit w accEnc_ok acct4 4 rfl _ _ rfl, (Below.refl _ _).alloc (Nat.le_refl _) _⟩
theorem acct4_ok : AccOk acct4 := accOk_of (by
  intro a ha
  simp only [acct4, List.mem_cons, List.not_mem_nil, or_false] at ha
  rcases ha with rfl | rfl | rfl | rfl <;> exact ⟨by decide, by decide⟩)
/-- the law's own balance -/
def bal0 : Bal := ⟨1, ⟨#[52, 48]⟩, ⟨#[69, 85, 82]⟩, -5⟩
theorem rep_kd : kdE acct4 [bal0] 1 ⟨#[69, 85, 82]⟩ = 0 := by decide +kernel
theorem rep_4 : ksum acct4 [bal0] 1 ⟨#[69, 85, 82]⟩ 4 = -5 := by decide +kernel
theorem rep_5 : ksum acct4 [bal0] 1 ⟨#[69, 85, 82]⟩ 5 = 0 := by decide +kernel
theorem rep_wide : kdE acct4 [bal0] 1 ⟨#[69, 85, 82]⟩ = 0 → ∀ k, k < 6 → Wide (ksum acct4 [bal0] 1 ⟨#[69, 85, 82]⟩ k) := by
  intro _ k hk
  unfold Wide
  rcases (show k = 0 ∨ k = 1 ∨ k = 2 ∨ k = 3 ∨ k = 4 ∨ k = 5 by omega) with rfl | rfl | rfl | rfl | rfl | rfl <;> decide +kernel
theorem rep_inc : incV acct4 [bal0] 1 ⟨#[69, 85, 82]⟩ = .tuple #[.int .i64 5, .int .i64 0, .int .i64 5, .nilIface] := by
  rw [incV, if_pos rep_kd, rep_4, rep_5]
  rfl

/-- the accounts' amounts, kind by kind, add to all -/
theorem kinds_sum (c : List Acc) (am : List Int) (i : Nat) (hi : i ≤ c.length) (ha : c.length ≤ am.length) (hk : ∀ j (h : j < c.length), 1 ≤ c[j].kind ∧ c[j].kind ≤ 5) :
    (kindTo c am i 1).sum + (kindTo c am i 2).sum + (kindTo c am i 3).sum + (kindTo c am i 4).sum + (kindTo c am i 5).sum = (am.take i).sum := by
  induction i with
  | zero => simp [kindTo]
  | succ i ih =>
    have h1 := ih (by omega)
    have hc : i < c.length := by omega
    have hm : i < am.length := by omega
    obtain ⟨h2, h3⟩ := hk i hc
    rw [List.take_succ_eq_append_getElem hm, List.sum_append]
    simp only [kindTo_succ _ hc hm, List.sum_append, List.sum_cons, List.sum_nil]
    obtain ⟨kd, hkd⟩ : ∃ kd, kd = c[i].kind := ⟨_, rfl⟩
    rw [← hkd] at h2 h3 ⊢
    rcases (show kd = 1 ∨ kd = 2 ∨ kd = 3 ∨ kd = 4 ∨ kd = 5 by omega) with rfl | rfl | rfl | rfl | rfl <;> simp <;> omega
end Go.Proofs.YthmjkhlndphldaaGreatDoor
