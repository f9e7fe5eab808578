/- chart.Parse: what it returns. -/
import Derived.Test.YthmjkhlndphldaaDoorPrsD
namespace Go.Proofs.YthmjkhlndphldaaDoor
open Go Go.RowKit Go.Shelf
set_option linter.unusedVariables false
attribute [local go_sem] Oper.semAt_some

theorem acc_info2 : (Tryd.prog.info? 29).map (fun i => (i.zero, i.size, i.bytes)) = some (some (.agg #[.string ⟨#[]⟩, .string ⟨#[]⟩, .int .i64 0, .string ⟨#[]⟩, .bool false]), 5, 64) := by kernel_rfl
theorem accEnc5 : Enc 5 Acc.enc := ⟨fun _ => rfl, by
  intro a u hu
  simp only [Acc.enc, List.mem_cons, List.not_mem_nil, or_false] at hu
  rcases hu with rfl | rfl | rfl | rfl | rfl <;> rfl⟩
theorem rd_boxAt {α : Type} {enc : α → List Value} (w : World) {sz : Nat} (he : Enc sz enc) (x : α) (cs : Array Value) (e : TypeId) (hcs : cs.toList = enc x) (g : Nat) (hg : g = w.heap.size) : Rd (w.alloc (.cells cs e)) sz enc (some ⟨g, 0, none⟩) 1 [x] := by
  subst hg; exact Rd.boxed w he x cs e hcs
theorem lines_maker (s : ByteArray) (w : World) : Calls Tryd.prog 48 #[.string s] w fun e w' => e = .returned (.func (.func 79) #[] #[.pointer (some ⟨w.heap.size, 0, none⟩)]) ∧ w' = w.alloc (.cells #[.string s] 9) := by
  go_enter Tryd.func48, Tryd.ntmps48
  go_wp2_with fail
  go_ret
  exact ⟨rfl, rfl⟩

theorem boxed_below {W W' : World} {B : Nat} {t : TypeId} {v : Value} (h : Boxed W B t v) (hb : Below W.heap.size W W') : Boxed W' B t v := (hb.block _ h.lt).trans h
theorem own_cells {α : Type} {W : World} {B e sz : Nat} {enc : α → List Value} {v : Value} {l : List α} (h : Own W B e sz enc v l) {r : Nat} (hr : r < B ∨ ∃ o : Obj, W.heap[r]? = some o ∧ o.isCells = false) : v.ownBlock ≠ some r := by
  intro e1
  rcases h.2 with ⟨rfl, _⟩ | ⟨g, cap, cur, rfl, hg, hb, _⟩
  · simp [Value.ownBlock] at e1
  · have e2 : g = r := by simpa [Value.ownBlock] using e1
    subst e2
    rcases hr with h | ⟨o, ho, hc⟩
    · omega
    · rw [hb] at ho; cases ho; simp [Obj.isCells] at hc

/-- the boxes of chart.Parse: the three results and l -/
structure Lay (n0 : Nat) (w W : World) (vr kr er vl : Value) : Prop where
  r : Boxed W n0 22 vr
  k : Boxed W (n0 + 1) 3 kr
  e : Boxed W (n0 + 2) 25 er
  l : Boxed W (n0 + 3) 22 vl
  low : Below n0 w W
  old : n0 ≤ w.heap.size
  big : n0 + 5 ≤ W.heap.size
theorem Lay.grown {n0 : Nat} {w W W' : World} {vr kr er vl : Value} (h : Lay n0 w W vr kr er vl) {row : Option Nat} (hg : W.grownBy W' row) (hr : ∀ r, row = some r → n0 + 4 ≤ r) : Lay n0 w W' vr kr er vl :=
  ⟨h.r.kept hg (fun e => by have := hr _ e.symm; omega), h.k.kept hg (fun e => by have := hr _ e.symm; omega), h.e.kept hg (fun e => by have := hr _ e.symm; omega), h.l.kept hg (fun e => by have := hr _ e.symm; omega),
    h.low.grown hg (Nat.le_trans h.old h.low.size) (fun k e => by have := hr _ e; omega), h.old, Nat.le_trans h.big hg.size⟩
theorem Lay.below {n0 : Nat} {w W W' : World} {vr kr er vl : Value} (h : Lay n0 w W vr kr er vl) (hb : Below W.heap.size W W') : Lay n0 w W' vr kr er vl :=
  ⟨boxed_below h.r hb, boxed_below h.k hb, boxed_below h.e hb, boxed_below h.l hb, bthen h.low h.old hb, h.old, Nat.le_trans h.big hb.size⟩

/-- what is so between two rounds, rest being left -/
def PRel (s rest : ByteArray) (acc : List Acc) : Prop :=
  parseR (cutL 10 s.data.toList) [] = parseR (cutL 10 rest.data.toList) acc ∧ acc.length ≤ 60 ∧ AccOk acc ∧ rest.size ≤ s.size
def PInv (s : ByteArray) (w : World) (rest : ByteArray) (W : World) : Prop :=
  ∃ acc v, Lay w.heap.size w W (.slice none 0 0) (.int .i64 0) .nilIface v ∧ Own W (w.heap.size + 5) 29 5 Acc.enc v acc ∧ PRel s rest acc
def PEnd (s : ByteArray) (w : World) (W : World) : Prop :=
  ∃ (k e : Int) (vl : Value), Lay w.heap.size w W (.slice none 0 0) (.int .i64 k) (errV e) vl ∧ parseR (cutL 10 s.data.toList) [] = ([], k, e)
theorem pinv_own (s : ByteArray) (w : World) (rest : ByteArray) : OwnAt (w.heap.size + 5) (w.heap.size + 4) (PInv s w rest) := by
  rintro W W' row ⟨acc, v, hl, ho, hp⟩ hg hr
  have hr4 : ∀ r, row = some r → w.heap.size + 4 ≤ r := fun r e => by rcases hr r e with h | h <;> omega
  refine ⟨acc, v, hl.grown hg hr4, ho.grown hg ?_, hp⟩
  cases row with
  | none =>
    cases hv : v.ownBlock with
    | none => exact .inl rfl
    | some k => exact .inr (by simp)
  | some r => exact .inr (own_cells ho (by rcases hr r rfl with h | h; exact .inl (by omega); exact .inr h.2))
theorem pend_own (s : ByteArray) (w : World) : OwnAt (w.heap.size + 5) (w.heap.size + 4) (PEnd s w) := by
  rintro W W' row ⟨k, e, vl, hl, hp⟩ hg hr
  exact ⟨k, e, vl, hl.grown hg (fun r e => by rcases hr r e with h | h <;> omega), hp⟩

theorem keeps_below {W W' : World} (h : Below W.heap.size W W') (B : Nat) : KeepsFrom B W W' := ⟨h.size, fun k o _ hk _ => (h.block k (Array.getElem?_eq_some_iff.1 hk).1).trans hk⟩
theorem boxed_other {W : World} {B b : Nat} {t : TypeId} {v : Value} (h : Boxed W B t v) (hne : B ≠ b) (u : Value) : Boxed (W.setCell ⟨b, 0, none⟩ u) B t v := h.kept (grownBy_setCell' W b u) (fun e => hne (by injection e))
theorem round_keeps {w' W3 W5 : World} {n0 : Nat} {o : Obj} {row : Option Nat} (hb3 : Below w'.heap.size w' W3) (hg5 : (W3.alloc o).grownBy W5 row) (hrow : ∀ j, row = some j → n0 + 5 ≤ j ∧ ∀ o', (W3.alloc o).heap[j]? = some o' → o'.isCells = true) (hbig : n0 + 5 ≤ w'.heap.size) (u : Value) :
    KeepsFrom (n0 + 5) w' (W5.setCell ⟨n0 + 3, 0, none⟩ u) ∧ (W5.setCell ⟨n0 + 3, 0, none⟩ u).heap[n0 + 4]? = w'.heap[n0 + 4]? := by
  refine ⟨(((keeps_below hb3 _).trans ((KeepsOthers.alloc _ _).from _)).trans ((KeepsOthers.of_grownBy hg5 (fun j o' e h => (hrow j e).2 o' h)).from _)).trans ((KeepsOthers.setCell _ _ _).from _), ?_⟩
  have h3 := hb3.size
  rw [(grownBy_setCell' W5 (n0 + 3) u).block (n0 + 4) (by have := hg5.size; simp at this; omega) (by simp), hg5.block (n0 + 4) (by simp; omega) (fun e => by have := (hrow _ e.symm).1; omega), Below.heap_alloc _ _ _ (by omega), hb3.block _ (by omega)]
theorem lay_set {n0 : Nat} {w W : World} {vr kr er vl : Value} (h : Lay n0 w W vr kr er vl) (u : Value) : Lay n0 w (W.setCell ⟨n0 + 3, 0, none⟩ u) vr kr er u :=
  ⟨boxed_other h.r (by omega) _, boxed_other h.k (by omega) _, boxed_other h.e (by omega) _, h.l.set _, h.low.setCell (p := ⟨n0 + 3, 0, none⟩) (by simp) _, h.old, by simpa [World.setCell] using h.big⟩
theorem own_rows {α : Type} {W : World} {B e sz : Nat} {enc : α → List Value} {v : Value} {l : List α} (h : Own W B e sz enc v l) : ∀ j, v.ownBlock = some j → B ≤ j ∧ ∀ o', W.heap[j]? = some o' → o'.isCells = true := by
  intro j e1
  refine ⟨(h.block j e1).1, fun o' ho => ?_⟩
  cases hc : o'.isCells with
  | true => rfl
  | false => exact absurd e1 (own_cells h (.inr ⟨o', ho, hc⟩))
theorem lay_sets {n0 : Nat} {w W : World} {vr kr er vl : Value} (hl : Lay n0 w W vr kr er vl) (x y z : Value) : Lay n0 w (((W.setCell ⟨n0, 0, none⟩ x).setCell ⟨n0 + 1, 0, none⟩ y).setCell ⟨n0 + 2, 0, none⟩ z) x y z vl := by
  refine ⟨?_, ?_, ?_, ?_, ?_, hl.old, by simpa [World.setCell] using hl.big⟩
  · exact boxed_other (boxed_other (hl.r.set _) (by omega) _) (by omega) _
  · exact boxed_other ((boxed_other hl.k (by omega) _).set _) (by omega) _
  · exact (boxed_other (boxed_other hl.e (by omega) _) (by omega) _).set _
  · exact boxed_other (boxed_other (boxed_other hl.l (by omega) _) (by omega) _) (by omega) _
  · exact ((hl.low.setCell (p := ⟨n0, 0, none⟩) (Nat.le_refl _) _).setCell (p := ⟨n0 + 1, 0, none⟩) (by simp) _).setCell (p := ⟨n0 + 2, 0, none⟩) (by simp) _
theorem lay_results {n0 : Nat} {w W : World} {vr kr er vl : Value} (hl : Lay n0 w W vr kr er vl) (tmps : Array Value) (h2 : tmps[2]? = some (.pointer (some ⟨n0, 0, none⟩))) (h3 : tmps[3]? = some (.pointer (some ⟨n0 + 1, 0, none⟩))) (h4 : tmps[4]? = some (.pointer (some ⟨n0 + 2, 0, none⟩))) :
    (results Tryd.f22 tmps).run Tryd.prog W = .ok (.tuple #[vr, kr, er]) W := by
  have c0 := hl.r.cell
  have c1 := hl.k.cell
  have c2 := hl.e.cell
  simp [results, Tryd.f22, go_sem, h2, h3, h4, c0, c1, c2]
theorem pend_ret {s : ByteArray} {w W W3 : World} {vl v2 : Value} {n ev : Int} (hl : Lay w.heap.size w W3 (.slice none 0 0) (.int .i64 0) .nilIface vl) (hb : KeepsFrom (w.heap.size + 5) W W3) (hv : v2 = errV ev) (hp : parseR (cutL 10 s.data.toList) [] = ([], n, ev)) :
    KeepsFrom (w.heap.size + 5) W (((W3.setCell ⟨w.heap.size, 0, none⟩ (.slice none 0 0)).setCell ⟨w.heap.size + 1, 0, none⟩ (.int .i64 n)).setCell ⟨w.heap.size + 2, 0, none⟩ v2).drew ∧
      PEnd s w (((W3.setCell ⟨w.heap.size, 0, none⟩ (.slice none 0 0)).setCell ⟨w.heap.size + 1, 0, none⟩ (.int .i64 n)).setCell ⟨w.heap.size + 2, 0, none⟩ v2).drew := by
  subst hv
  refine ⟨((hb.trans ((KeepsOthers.setCell _ _ _).from _)).trans ((KeepsOthers.setCell _ _ _).from _)).trans ((KeepsOthers.setCell _ _ _).from _) |>.trans ((KeepsOthers.drew _).from _), n, ev, vl, ⟨?_, ?_, ?_, ?_, ?_, hl.old, by simpa [World.setCell] using hl.big⟩, hp⟩
  · exact boxed_other (boxed_other (hl.r.set _) (by omega) _) (by omega) _
  · exact boxed_other ((boxed_other hl.k (by omega) _).set _) (by omega) _
  · exact (boxed_other (boxed_other hl.e (by omega) _) (by omega) _).set _
  · exact boxed_other (boxed_other (boxed_other hl.l (by omega) _) (by omega) _) (by omega) _
  · exact bdrewN (((hl.low.setCell (p := ⟨w.heap.size, 0, none⟩) (Nat.le_refl _) _).setCell (p := ⟨w.heap.size + 1, 0, none⟩) (by simp) _).setCell (p := ⟨w.heap.size + 2, 0, none⟩) (by simp) _) 1

set_option maxRecDepth 100000 in
set_option maxHeartbeats 4000000 in
theorem parse_any (s : ByteArray) (w : World) (hs : s.size ≤ 4294967280) : Calls Tryd.prog 22 #[.string s] w fun e w' => ∃ v, e = .returned (.tuple #[v, .int .i64 (parseR (cutL 10 s.data.toList) []).2.1, errV (parseR (cutL 10 s.data.toList) []).2.2]) ∧
    Own w' (w.heap.size + 5) 29 5 Acc.enc v (parseR (cutL 10 s.data.toList) []).1 ∧ Below w.heap.size w w' := by
  obtain ⟨i0, hi0, hz0, hz1, hz2⟩ := info_parts acc_info2
  have HS := hide hs
  clear hs
  refine (callsIn_wide (n := 9)).1 ?_
  refine callsIn_of_wp_marks Tryd.func22 rfl trivial ?_ rfl
  simp only [Tryd.ntmps22, List.size_toArray, List.length_cons, List.length_nil, Nat.reduceAdd, Nat.reduceSub, Array.replicate_succ, Array.replicate_zero, List.push_toArray, List.append_toArray, List.nil_append, List.cons_append]
  gi_wp2_with (refine ⟨trivial, ?_⟩; gi_at_call 48; refine (callsIn_wide.2 (lines_maker s _)).mono ?_; rintro e w' ⟨rfl, rfl⟩)
  simp only [Nat.add_assoc, Nat.reduceAdd]
  obtain ⟨W0, hW0⟩ : ∃ W0, W0 = (((((w.alloc (.cells #[.slice none 0 0] 22)).alloc (.cells #[.int .i64 0] 3)).alloc (.cells #[.nilIface] 25)).alloc (.cells #[.slice none 0 0] 22)).alloc (.cells #[.string s] 9)) := ⟨_, rfl⟩
  rw [← hW0]
  have hsz : W0.heap.size = w.heap.size + 5 := by rw [hW0]; simp
  have hlay : Lay w.heap.size w W0 (.slice none 0 0) (.int .i64 0) .nilIface (.slice none 0 0) := by
    rw [hW0]
    have b0 := Boxed.new w 22 (.slice none 0 0)
    have b1 := Boxed.new (w.alloc (.cells #[.slice none 0 0] 22)) 3 (.int .i64 0)
    have b2 := Boxed.new ((w.alloc (.cells #[.slice none 0 0] 22)).alloc (.cells #[.int .i64 0] 3)) 25 .nilIface
    have b3 := Boxed.new (((w.alloc (.cells #[.slice none 0 0] 22)).alloc (.cells #[.int .i64 0] 3)).alloc (.cells #[.nilIface] 25)) 22 (.slice none 0 0)
    simp only [World.size_alloc, Nat.add_assoc, Nat.reduceAdd] at b1 b2 b3
    exact ⟨(((b0.alloc _).alloc _).alloc _).alloc _, ((b1.alloc _).alloc _).alloc _, (b2.alloc _).alloc _, b3.alloc _, (((((Below.refl _ w).alloc (Nat.le_refl _) _).alloc (by simp) _).alloc (by simp; omega) _).alloc (by simp; omega) _).alloc (by simp; omega) _, Nat.le_refl _, by simp⟩
  have hbox : W0.heap[w.heap.size + 4]? = some (.cells #[.string s] 9 (0, 0)) := by
    have b4 := Boxed.new ((((w.alloc (.cells #[.slice none 0 0] 22)).alloc (.cells #[.int .i64 0] 3)).alloc (.cells #[.nilIface] 25)).alloc (.cells #[.slice none 0 0] 22)) 9 (.string s)
    simp only [World.size_alloc, Nat.add_assoc, Nat.reduceAdd] at b4
    rw [hW0]; exact b4
  clear hW0
  refine rangeFunc_at (F := Fence.wide) rfl (by omega) (gf := 79) (lb := #[.pointer (some ⟨w.heap.size + 4, 0, none⟩)]) rfl trivial (enters_of Tryd.func79 (by kernel_rfl) rfl)
    (lines_turns 8 (by omega) (w.heap.size + 4)) (by omega) s HS.out hbox (fun _ => rfl) (PInv s w) (PEnd s w) (by rw [hsz]; exact pinv_own s w) (by rw [hsz]; exact pend_own s w)
    ⟨[], _, hlay, Own.nil _ _ _ _ _, rfl, by simp, fun i h => by simp at h, Nat.le_refl _⟩ (fun rest => { tmps := #[.string s, undef, .pointer (some ⟨w.heap.size, 0, none⟩), .pointer (some ⟨w.heap.size + 1, 0, none⟩), .pointer (some ⟨w.heap.size + 2, 0, none⟩), .pointer (some ⟨w.heap.size + 3, 0, none⟩), .string (headB rest), undef, undef, undef, undef, undef, .string s, .func (.func 79) #[] #[.pointer (some ⟨w.heap.size + 4, 0, none⟩)], .string (headB rest), undef, undef, undef, undef, undef, undef, undef, undef, undef, undef, undef, undef, undef, undef, undef, undef, undef, undef, undef, undef, undef, undef, undef, undef, undef, undef, undef, undef, undef, undef, undef, undef, undef, undef, undef, undef, undef, undef, undef, undef, undef], defers := [] }) ?assign ?body ?done ?stop
  case assign =>
    intro l x W K hK
    gi_wp2
    exact hK
  case body =>
    rintro l rest W ⟨acc, v, hlay, hown, hrel⟩ hlive
    rw [hsz]
    have HSB : Hid (rest.size ≤ 4294967280) := by have := HS.out; have := hrel.2.2.2; show rest.size ≤ _; omega
    obtain ⟨A, vc, rfl, hvc, hvm⟩ := hown.form
    have cl := hlay.l.cell
    rcases line_cases rest with ⟨i, x1, x2, x3, x4, q, hq10, hhead, hql, hcut⟩ | ⟨x1, hhead, htail, hq10, hcut⟩
    · have hcs : ∀ W', Calls Tryd.prog 49 #[.string (headB rest), .string ⟨#[10]⟩] W' fun e w' => e = .returned (.tuple #[.string (bs q), .bool true]) ∧ w' = W' := fun W' => by
        have hz := head_le rest
        refine (Tryd.strings_CutSuffix (headB rest) ⟨#[10]⟩ W' (by have := HSB.out; omega)).mono fun e w' ⟨he, hw⟩ => ⟨?_, hw⟩
        rw [he, hhead, (suffix_yes q).1, (suffix_yes q).2]; rfl
      have HR := hide (hrel.1.trans (by rw [hcut, parse_hit]))
      have hal := hrel.2.1
      have haok := hrel.2.2.1
      have HQ := hide hql
      have HRS : Hid ((tailB rest).size ≤ s.size) := by have := tail_lt hlive; have := hrel.2.2.2; show _ ≤ _; omega
      clear hrel hhead hq10 hcut hql x1 x2 x3 x4
      gi_wp2_with (refine ⟨trivial, ?_⟩; gi_at_call 49; refine (CallsIn.inRound l (callsIn_wide.2 (hcs _))).mono ?_; rintro e w' ⟨rfl, rfl⟩)
      refine ⟨trivial, (CallsIn.inRound l (callsIn_wide.2 (line_any (bs q) _ (by have := HSB.out; have := HQ.out; rw [bs_size]; omega)))).mono ?_⟩
      rintro e W2 ⟨a, bb, he, hyes, hno, hb2⟩
      unfold accV at he
      subst he
      rw [bs_data] at hyes hno
      clear cl
      cases bb with
      | false =>
        have HP : Hid (parseR (cutL 10 s.data.toList) [] = ([], (acc.length : Int), 2)) := by
          show _ = _
          rw [HR.out, hno rfl]
        clear hyes hno
        gi_wp2_with fail
        obtain ⟨W3, hW3⟩ : ∃ W3, W3 = W2.alloc (.cells #[.string a.code, .string a.name, .int .i64 a.kind, .string a.parent, .bool a.money] 29) := ⟨_, rfl⟩
        rw [← hW3]
        have hb3 : Below w'.heap.size w' W3 := by rw [hW3]; exact hb2.alloc hb2.size _
        have hlay3 := hlay.below hb3
        have cl3 := hlay3.l.cell
        have cr3 := hlay3.r.cell
        have ck3 := hlay3.k.cell
        have ce3 := hlay3.e.cell
        have fr3 := hlay3.r.frozen
        have fk3 := hlay3.k.frozen
        have fe3 := hlay3.e.frozen
        have HL := hide hlay3
        have mixed : Tryd.prog.follows .mixedOrders = true := by kernel_rfl
        clear hW3 hb2 hlay3
        gi_region_with_o (fail)
        all_goals gi_wp2
        all_goals exact pend_ret HL.out (keeps_below hb3 _) rfl HP.out
      | true =>
        have hsmall := lineA_small (hyes rfl)
        have HR2 := hide (HR.out.trans (by rw [hyes rfl]))
        clear hyes hno
        obtain ⟨W3, hW3⟩ : ∃ W3, W3 = W2.alloc (.cells #[.string a.code, .string a.name, .int .i64 a.kind, .string a.parent, .bool a.money] 29) := ⟨_, rfl⟩
        have hsz3 : W2.heap.size < W3.heap.size := by rw [hW3]; simp
        have hbig := (hlay.below hb2).big
        have hb3 : Below w'.heap.size w' W3 := by rw [hW3]; exact hb2.alloc hb2.size _
        have hlay3 := hlay.below hb3
        have hown3 := hown.below hb3
        have cl3 := hlay3.l.cell
        have fl3 := hlay3.l.frozen
        have d0 : W3.cell? ⟨W2.heap.size, 0, none⟩ = some (.string a.code) := by rw [hW3, World.cell?_alloc_new]; rfl
        have d1 : W3.cell? ⟨W2.heap.size, 1, none⟩ = some (.string a.name) := by rw [hW3, World.cell?_alloc_new]; rfl
        have d2 : W3.cell? ⟨W2.heap.size, 2, none⟩ = some (.int .i64 a.kind) := by rw [hW3, World.cell?_alloc_new]; rfl
        have d3 : W3.cell? ⟨W2.heap.size, 3, none⟩ = some (.string a.parent) := by rw [hW3, World.cell?_alloc_new]; rfl
        have d4 : W3.cell? ⟨W2.heap.size, 4, none⟩ = some (.bool a.money) := by rw [hW3, World.cell?_alloc_new]; rfl
        by_cases h60 : acc.length = 60
        · have HP : Hid (parseR (cutL 10 s.data.toList) [] = ([], 60, 4)) := by
            show _ = _
            refine (HR2.out.trans (if_pos h60)).trans ?_
            rw [h60]; rfl
          have h60i : ((acc.length : Int) == 60) = true := by rw [beq_iff_eq]; omega
          have h60j : (acc.length : Int) = 60 := by omega
          clear d0 d1 d2 d3 d4 fl3 hown3 hlay3 hb3 h60
          subst hW3
          gi_wp2_with fail
          obtain ⟨W3, hW3⟩ : ∃ W3, W3 = W2.alloc (.cells #[.string a.code, .string a.name, .int .i64 a.kind, .string a.parent, .bool a.money] 29) := ⟨_, rfl⟩
          rw [← hW3]
          have hb3 : Below w'.heap.size w' W3 := by rw [hW3]; exact hb2.alloc hb2.size _
          have hlay3 := hlay.below hb3
          have cl3 := hlay3.l.cell
          have cr3 := hlay3.r.cell
          have ck3 := hlay3.k.cell
          have ce3 := hlay3.e.cell
          have fr3 := hlay3.r.frozen
          have fk3 := hlay3.k.frozen
          have fe3 := hlay3.e.frozen
          have HL := hide hlay3
          have mixed : Tryd.prog.follows .mixedOrders = true := by kernel_rfl
          clear hW3 hb2 hlay3
          gi_region_with_o (fail)
          all_goals gi_wp2
          all_goals exact pend_ret HL.out (keeps_below hb3 _) rfl HP.out
        · have h60' : ¬ ((acc.length : Int) = 60) := by omega
          have h60b : ((acc.length : Int) == 60) = false := by rw [beq_eq_false_iff_ne]; exact h60'
          have hal2 : acc.length < 60 := by omega
          clear h60
          subst hW3
          gi_wp2_with (gi_at_builtin; go_loud (refine wpListIn_push _ rfl _ _ 22 rfl (w.heap.size + 5) 29 i0 (.agg #[.string ⟨#[]⟩, .string ⟨#[]⟩, .int .i64 0, .string ⟨#[]⟩, .bool false]) 5 64 Tryd.underlying22 hi0 hz0 hz1 hz2 rfl (by decide) accEnc5 _ acc rfl (hown3.alloc _) _ 1 1 [a] rfl (rd_boxAt _ accEnc5 a _ _ rfl _ (by simp)) (by intro h; cases h) (by simp only [maxLen]; omega) (by omega) (by simp; omega) ?_); intro v' W5 hown5 hg5 hat5; obtain ⟨A5, c5, rfl, hc5, hm5⟩ := hown5.form; have hlay5 := Lay.grown (Lay.grown hlay3 (World.grownBy_alloc _ _ none) (fun r e => by cases e)) hg5 (fun r e => by have := (hown3.block r e).1; omega); have cl5 := hlay5.l.cell; have fl5 := hlay5.l.frozen)
          have HP0 : Hid (parseR (cutL 10 s.data.toList) [] = if accF acc a = 0 then parseR (cutL 10 (tailB rest).data.toList) (acc ++ [a]) else ([], (acc.length : Int), accF acc a)) := by
            show _ = _
            rw [HR2.out]; exact if_neg (by omega)
          have hlen : (acc ++ [a]).length = acc.length + 1 := by simp
          have hke := round_keeps hb3 hg5 (own_rows (hown3.alloc _)) hlay.big (.slice A5 (acc ++ [a]).length c5)
          have hlay6 := lay_set hlay5 (.slice A5 (acc ++ [a]).length c5)
          have hown6 := hown5.grown (grownBy_setCell' W5 (w.heap.size + 3) (.slice A5 (acc ++ [a]).length c5)) (.inr (own_cells hown5 (.inl (by omega))))
          rw [hlen] at hke hlay6 hown6 hc5
          obtain ⟨W6, hW6⟩ : ∃ W6, W6 = W5.setCell ⟨w.heap.size + 3, 0, none⟩ (.slice A5 (acc.length + 1) c5) := ⟨_, rfl⟩
          rw [← hW6] at hke hlay6 hown6 ⊢
          clear hW6 hown5 hg5 hat5 hlay5 cl5 fl5 d0 d1 d2 d3 d4 cl3 fl3 hown3 hlay3
          have haok6 : AccOk (acc ++ [a]) := by
            intro i hi
            by_cases e : i < acc.length
            · rw [List.getElem_append_left e]; exact haok i e
            · have : i = acc.length := by rw [hlen] at hi; omega
              subst this
              rw [List.getElem_append_right (Nat.le_refl _)]
              have h1 := hsmall.1
              have h2 := hsmall.2.1
              have h3 := HQ.out
              have h4 := HSB.out
              simp only [Nat.sub_self, List.getElem_cons_zero]
              omega
          have hm5 : acc.length + 1 ≤ 9223372036854775807 := by omega
          by_cases he : accF acc a = 0
          · have HP := hide (HP0.out.trans (if_pos he))
            refine ⟨trivial, (CallsIn.inRound l (callsIn_wide.2 (account_ok (acc ++ [a]) A5 (acc.length + 1) c5 acc.length W6 hm5 hc5 (hown6.rd accEnc5) haok6 (by omega) (by rw [accE_last]; exact he)))).mono ?_⟩
            rintro e W7 ⟨rfl, hb7⟩
            clear HP0 he
            have hlay7 := hlay6.below hb7
            have hown7 := hown6.below hb7
            have hk7 := hke.1.trans (keeps_below hb7 _)
            have hx7 : W7.heap[w.heap.size + 4]? = w'.heap[w.heap.size + 4]? := (hb7.block _ (by have := hlay6.big; omega)).trans hke.2
            clear hb7 hke hlay6 hown6
            gi_wp2_with fail
            exact ⟨hk7, hx7, acc ++ [a], _, hlay7, hown7, HP.out, by omega, haok6, HRS.out⟩
          · have HP := hide (HP0.out.trans (if_neg he))
            refine ⟨trivial, (CallsIn.inRound l (callsIn_wide.2 (account_bad (acc ++ [a]) A5 (acc.length + 1) c5 acc.length W6 hm5 hc5 (hown6.rd accEnc5) haok6 (by omega) (by rw [accE_last]; exact he)))).mono ?_⟩
            rintro e W7 ⟨rfl, hb7⟩
            rw [accE_last]
            have HE := hide he
            clear HP0 he
            have hlay7 := hlay6.below hb7
            have cl7 := hlay7.l.cell
            have cr7 := hlay7.r.cell
            have ck7 := hlay7.k.cell
            have ce7 := hlay7.e.cell
            have fr7 := hlay7.r.frozen
            have fk7 := hlay7.k.frozen
            have fe7 := hlay7.e.frozen
            have hk7 := hke.1.trans (keeps_below hb7 _)
            have HL := hide hlay7
            have mixed : Tryd.prog.follows .mixedOrders = true := by kernel_rfl
            clear hlay7 hb7 hke
            gi_wp2_with fail
            gi_region_with_o (fail)
            all_goals gi_wp2
            all_goals rw [show IntKind.i64.wrap (acc.length : Int) = (acc.length : Int) by rw [IntKind.wrap_i64]; omega]
            all_goals exact pend_ret HL.out hk7 (errV_n HE.out).symm HP.out
    · have hcs : ∀ W', Calls Tryd.prog 49 #[.string (headB rest), .string ⟨#[10]⟩] W' fun e w' => e = .returned (.tuple #[.string rest, .bool false]) ∧ w' = W' := fun W' => by
        rw [hhead]
        refine (Tryd.strings_CutSuffix rest ⟨#[10]⟩ W' (by have := HSB.out; omega)).mono fun e w' ⟨he, hw⟩ => ⟨?_, hw⟩
        rw [he, suffix_no hq10]
        unfold Lib.trimSuffix
        rw [if_neg (by rw [suffix_no hq10]; decide)]
      have HP : Hid (parseR (cutL 10 s.data.toList) [] = ([], (acc.length : Int), 2)) := by
        show _ = _
        rw [hrel.1, hcut, parse_end (fun e => hlive (by rw [Lib.size_eq, e]; rfl))]
      clear hrel hhead htail hq10 hcut x1
      gi_wp2_with (refine ⟨trivial, ?_⟩; gi_at_call 49; refine (CallsIn.inRound l (callsIn_wide.2 (hcs _))).mono ?_; rintro e w' ⟨rfl, rfl⟩)
      refine ⟨trivial, (CallsIn.inRound l (callsIn_wide.2 (line_any rest _ (by have := HSB.out; omega)))).mono ?_⟩
      rintro e W2 ⟨a, bb, he, _, _, hb2⟩
      unfold accV at he
      subst he
      have hlay2 := hlay.below hb2
      clear cl
      gi_wp2_with fail
      obtain ⟨W3, hW3⟩ : ∃ W3, W3 = W2.alloc (.cells #[.string a.code, .string a.name, .int .i64 a.kind, .string a.parent, .bool a.money] 29) := ⟨_, rfl⟩
      rw [← hW3]
      have hb3 : Below w'.heap.size w' W3 := by rw [hW3]; exact hb2.alloc hb2.size _
      have hlay3 := hlay.below hb3
      have cl3 := hlay3.l.cell
      have cr3 := hlay3.r.cell
      have ck3 := hlay3.k.cell
      have ce3 := hlay3.e.cell
      have fr3 := hlay3.r.frozen
      have fk3 := hlay3.k.frozen
      have fe3 := hlay3.e.frozen
      have HL := hide hlay3
      have mixed : Tryd.prog.follows .mixedOrders = true := by kernel_rfl
      clear hlay2 hW3 hb2 hlay3
      gi_region_with_o (fail)
      all_goals gi_wp2
      all_goals exact pend_ret HL.out (keeps_below hb3 _) rfl HP.out
  case done =>
    rintro D rest W hD hdead ⟨acc, v, hlay, hown, hrel⟩ hK
    rw [hsz] at hD
    obtain ⟨A, vc, rfl, hvc, hvm⟩ := hown.form
    have hr0 : rest.data.toList = [] := by
      have h0 : rest.size = 0 := by
        by_cases h : rest.size = 0
        · exact h
        · exact absurd h hdead
      rw [Lib.size_eq] at h0
      exact List.eq_nil_of_length_eq_zero h0
    have HP : Hid (parseR (cutL 10 s.data.toList) [] = (acc, 0, 0)) := by
      show _ = _
      rw [hrel.1, hr0]; exact parse_done acc
    have cl := hlay.l.cell
    have cr := hlay.r.cell
    have ck := hlay.k.cell
    have ce := hlay.e.cell
    have fr := hlay.r.frozen
    have fk := hlay.k.frozen
    have fe := hlay.e.frozen
    have HL := hide hlay
    have HO := hide hown
    clear hrel hdead hlay hown hr0
    gi_wp2
    have hK1 := (KeepsOthers.setCell W ⟨w.heap.size, 0, none⟩ (.slice A acc.length vc)).same D _ hK rfl
    have hK2 := (KeepsOthers.setCell _ ⟨w.heap.size + 1, 0, none⟩ (.int .i64 0)).same D _ hK1 rfl
    have hK3 := (KeepsOthers.setCell _ ⟨w.heap.size + 2, 0, none⟩ .nilIface).same D _ hK2 rfl
    have hlF := (lay_sets HL.out (.slice A acc.length vc) (.int .i64 0) .nilIface).grown (grownBy_putObj' _ D (.deferred none)) (fun r e => by injection e with e; omega)
    have ho1 := HO.out.grown (grownBy_setCell' W w.heap.size (.slice A acc.length vc)) (.inr (own_cells HO.out (.inl (by omega))))
    have ho2 := ho1.grown (grownBy_setCell' _ (w.heap.size + 1) (.int .i64 0)) (.inr (own_cells ho1 (.inl (by omega))))
    have hoF := ho2.grown (grownBy_setCell' _ (w.heap.size + 2) .nilIface) (.inr (own_cells ho2 (.inl (by omega))))
    have hoG := hoF.grown (grownBy_putObj' _ D (.deferred none)) (.inr (own_cells hoF (.inr ⟨_, hK3, rfl⟩)))
    refine ⟨by simp, .inl ⟨_, _, rfl, run_takeDeferred hK3, ?_⟩⟩
    refine ⟨_, lay_results hlF _ rfl rfl rfl, .slice A acc.length vc, ?_, ?_, hlF.low⟩
    · rw [HP.out]; rfl
    · rw [HP.out]; exact hoG
  case stop =>
    rintro D W hD ⟨k, e, vl, hlay, hp⟩ hK
    rw [hsz] at hD
    gi_wp2
    have hlF := hlay.grown (grownBy_putObj' W D (.deferred none)) (fun r e => by injection e with e; omega)
    refine ⟨by simp, .inl ⟨_, _, rfl, run_takeDeferred hK, ?_⟩⟩
    refine ⟨_, lay_results hlF _ rfl rfl rfl, .slice none 0 0, ?_, ?_, hlF.low⟩
    · rw [hp]
    · rw [hp]; exact Own.nil _ _ _ _ _
end Go.Proofs.YthmjkhlndphldaaDoor
