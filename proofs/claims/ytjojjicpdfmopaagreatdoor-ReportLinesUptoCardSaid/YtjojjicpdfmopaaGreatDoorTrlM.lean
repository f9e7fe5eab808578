/- The trial balance's turns: a map from currencies to blocks of two slices; the slice of currencies; the text. -/
import Derived.Test.YtjojjicpdfmopaaGreatDoorTrlA
import Derived.Maps.OwnSet
import Derived.Maps.OwnOps
import Derived.Maps.Views
namespace Go.Proofs.YtjojjicpdfmopaaGreatDoor
open Go Go.RowKit Go.Maps Go.WideMaps
set_option linter.unusedVariables false

/-- a pointer reads as itself -/
def ptrElem : Value → Option (DataW Value × List MemPlace)
  | .pointer q => some (.held (.pointer q), [])
  | _ => none
theorem ptrElem_inv {v : Value} {q : Option Addr} {ps : List MemPlace} (h : ptrElem v = some (.held (.pointer q), ps)) : v = .pointer q := by
  cases v <;> simp [ptrElem] at h
  rw [h.1]
theorem trKey : Keyed Tryz.prog 9 := string_keyed Tryz.underlying9
theorem zeroTurns (w : World) : (zeroValue 50).run Tryz.prog w = .ok (.pointer none) w := by kernel_rfl
def trLit (s : ByteArray) : Lit := .string s.data.toList
theorem trLit_inj {s t : ByteArray} (h : trLit s = trLit t) : s = t := by
  unfold trLit at h
  injection h with h
  obtain ⟨⟨a⟩⟩ := s
  obtain ⟨⟨b⟩⟩ := t
  simp at h
  rw [h]

/-- where the turns of a currency lie -/
def atOf (ks : List ByteArray) (g : Nat → Nat) (k : ByteArray) : Option Addr := match ks.findIdx? fun y => decide (y = k) with | some j => some ⟨g j, 0, none⟩ | none => none
section
variable {ks : List ByteArray} {g : Nat → Nat} {k s : ByteArray} {f : Nat}
theorem atOf_none (h : k ∉ ks) : atOf ks g k = none := by
  have : (ks.findIdx? fun y => decide (y = k)) = none := by
    rw [List.findIdx?_eq_none_iff]
    intro y hy
    exact decide_eq_false fun e => h (e ▸ hy)
  unfold atOf; rw [this]
theorem atOf_some (h : k ∈ ks) : ∃ (j : Nat) (hj : j < ks.length), ks[j] = k ∧ atOf ks g k = some ⟨g j, 0, none⟩ := by
  cases ho : ks.findIdx? fun y => decide (y = k) with
  | none =>
    rw [List.findIdx?_eq_none_iff] at ho
    have := ho k h
    simp at this
  | some j =>
    obtain ⟨hj, h2, _⟩ := List.findIdx?_eq_some_iff_getElem.1 ho
    exact ⟨j, hj, of_decide_eq_true h2, by unfold atOf; rw [ho]⟩
def gSet (g : Nat → Nat) (n f : Nat) (j : Nat) : Nat := if j = n then f else g j
theorem atOf_other (h : k ≠ s) : atOf (ks ++ [s]) (gSet g ks.length f) k = atOf ks g k := by
  unfold atOf
  rw [List.findIdx?_append]
  have h1 : ([s].findIdx? fun y => decide (y = k)) = none := by
    rw [List.findIdx?_eq_none_iff]
    intro y hy
    obtain rfl := List.mem_singleton.1 hy
    exact decide_eq_false fun e => h e.symm
  rw [h1]
  cases ho : ks.findIdx? fun y => decide (y = k) with
  | none => rfl
  | some j =>
    obtain ⟨hj, _⟩ := List.findIdx?_eq_some_iff_getElem.1 ho
    show some (Addr.mk (gSet g ks.length f j) 0 none) = _
    unfold gSet
    rw [if_neg (by omega)]
theorem atOf_new (h : s ∉ ks) : atOf (ks ++ [s]) (gSet g ks.length f) s = some ⟨f, 0, none⟩ := by
  unfold atOf
  have h0 : (ks.findIdx? fun y => decide (y = s)) = none := by
    rw [List.findIdx?_eq_none_iff]
    intro y hy
    exact decide_eq_false fun e => h (e ▸ hy)
  have h1 : ([s].findIdx? fun y => decide (y = s)) = some 0 := by simp [List.findIdx?_cons]
  rw [List.findIdx?_append, h0, h1]
  show some (Addr.mk (gSet g ks.length f (0 + ks.length)) 0 none) = _
  unfold gSet
  rw [if_pos (by omega)]
end

/-- block M is a map: of each of the currencies ks it has where its turns lie -/
def TMap (w : World) (M : Nat) (ks : List ByteArray) (g : Nat → Nat) : Prop :=
  ∃ D : DataW Value, w.ownsMap Tryz.prog 9 ptrElem M ks.length D ∧ IsMap D ∧ ∀ s : ByteArray, s.size ≤ maxLen → D.atKey (trLit s) (.held (.pointer none)) = .held (.pointer (atOf ks g s))
section
variable {w w' : World} {M : Nat} {ks : List ByteArray} {g : Nat → Nat}
theorem TMap.lt (h : TMap w M ks g) : M < w.heap.size := by obtain ⟨D, h1, _⟩ := h; exact h1.lt
theorem TMap.made (w : World) (g : Nat → Nat) : TMap (w.alloc (.map #[] 0)) w.heap.size [] g :=
  ⟨.map [], World.ownsMap_made _ _ _ _, isMap_empty, fun s _ => by simp [DataW.atKey, atOf]⟩
theorem TMap.same (h : TMap w M ks g) (e : w'.heap[M]? = w.heap[M]?) : TMap w' M ks g := by
  obtain ⟨D, ⟨es, clock, hb, r⟩, h2⟩ := h
  exact ⟨D, ⟨es, clock, e.trans hb, r⟩, h2⟩
set_option maxRecDepth 100000 in
theorem TMap.lookup (h : TMap w M ks g) (s : ByteArray) (hs : s.size ≤ maxLen) :
    (Instr.lookup 44 (.map (some M)) (.string s) false).run Tryz.prog w = .ok (.pointer (atOf ks g s)) w := by
  obtain ⟨D, h1, h2, h3⟩ := h
  obtain ⟨v, ps, hrun, hv⟩ := h1.lookup trKey Tryz.underlying44 (zeroTurns w) (zd := .held (.pointer none)) (zp := []) rfl (keyOf_string_mk Tryz.underlying9 hs)
  have h4 := h3 s hs
  unfold trLit at h4
  rw [h4] at hv
  rw [hrun, ptrElem_inv hv]
set_option maxRecDepth 100000 in
theorem TMap.update (h : TMap w M ks g) (s : ByteArray) (hs : s.size ≤ maxLen) (hn : s ∉ ks) (hl : ks.length < maxLen) (f : Nat) :
    ∃ w', (Instr.mapUpdate 44 (.map (some M)) (.string s) (.pointer (some ⟨f, 0, none⟩))).run Tryz.prog w = .ok () w' ∧ TMap w' M (ks ++ [s]) (gSet g ks.length f) ∧ w.grownBy w' (some M) ∧ w'.heap.size = w.heap.size := by
  obtain ⟨D, h1, h2, h3⟩ := h
  obtain ⟨w', r1, r2, r3⟩ := h1.store trKey Tryz.underlying44 hl (keyOf_string_mk Tryz.underlying9 hs) (show ptrElem (.pointer (some ⟨f, 0, none⟩)) = some (.held (.pointer (some ⟨f, 0, none⟩)), []) from rfl)
  refine ⟨w', r1, ⟨_, by rw [List.length_append]; exact r2, h2.put _ _, fun t ht => ?_⟩, r3.grown, ?_⟩
  · by_cases e : t = s
    · subst e
      rw [show (Lit.string t.data.toList) = trLit t from rfl, atKey_put_same h2 (by simp [trLit, WideAt.IsKeyLit]), atOf_new hn]
    · rw [show (Lit.string s.data.toList) = trLit s from rfl, atKey_put_other (fun h => e (trLit_inj h)), h3 t ht, atOf_other e]
  · obtain ⟨es, clock, es', clock', hb, rfl⟩ := r3
    simp [ChangeMaps.setBlock]
end

/-- the turns of the currencies ks: of each currency debits D, credits C, each in a block of its own -/
structure Trs (w : World) (B M : Nat) (lab g : Nat → Nat) (vd vc : Nat → Value) (ks : List ByteArray) (D C : ByteArray → List Int) : Prop where
  map : TMap w M ks g
  mlo : B ≤ M
  mlab : lab M = 1
  glo : ∀ j, j < ks.length → B ≤ g j
  glab : ∀ j, j < ks.length → lab (g j) = 3 * j + 3
  cell : ∀ j, j < ks.length → w.heap[g j]? = some (.cells #[vd j, vc j] 53 (0, 0))
  down : ∀ j (h : j < ks.length), Own w B 3 1 intEnc2 (vd j) (D ks[j])
  dlab : ∀ j, j < ks.length → ∀ i, (vd j).ownBlock = some i → lab i = 3 * j + 4
  cown : ∀ j (h : j < ks.length), Own w B 3 1 intEnc2 (vc j) (C ks[j])
  clab : ∀ j, j < ks.length → ∀ i, (vc j).ownBlock = some i → lab i = 3 * j + 5
/-- all that the loop owns -/
structure TS (w : World) (B b M : Nat) (lab g : Nat → Nat) (vd vc : Nat → Value) (vk vb p : Value) (ks kk : List ByteArray) (D C : ByteArray → List Int) (t : List UInt8) : Prop where
  trs : Trs w B M lab g vd vc ks D C
  kown : Own w B 9 1 strEnc vk kk
  klab : ∀ i, vk.ownBlock = some i → lab i = 2
  bl : Bl w B b vb p t
  blab : lab b = 0
  vlab : ∀ i, vb.ownBlock = some i → lab i = 0

section
variable {w w' : World} {B b M : Nat} {lab lab' g : Nat → Nat} {vd vc : Nat → Value} {vk vb p : Value} {ks kk : List ByteArray} {D C : ByteArray → List Int} {t : List UInt8} {bad : Nat → Prop}
theorem Trs.glt (h : Trs w B M lab g vd vc ks D C) {j : Nat} (hj : j < ks.length) : g j < w.heap.size := (Array.getElem?_eq_some_iff.1 (h.cell j hj)).1
theorem Trs.gr (h : Trs w B M lab g vd vc ks D C) (hg : Gr w w' bad) (hb : ∀ i, i < w.heap.size → bad i → lab i = 0 ∨ lab i = 2) (hl : ∀ i, i < w.heap.size → lab' i = lab i) : Trs w' B M lab' g vd vc ks D C := by
  have hM := h.map.lt
  refine ⟨h.map.same (hg.block M hM fun e => ?_), h.mlo, (hl M hM).trans h.mlab, h.glo, fun j hj => (hl _ (h.glt hj)).trans (h.glab j hj), fun j hj => (hg.block _ (h.glt hj) fun e => ?_).trans (h.cell j hj), fun j hj => row_same (h.down j hj) fun i hi e => hg.block i hi fun e2 => ?_, fun j hj i e => ?_, fun j hj => row_same (h.cown j hj) fun i hi e => hg.block i hi fun e2 => ?_, fun j hj i e => ?_⟩
  · have := hb M hM e; have := h.mlab; omega
  · have := hb _ (h.glt hj) e; have := h.glab j hj; omega
  · have := hb i hi e2; have := h.dlab j hj i e; omega
  · exact (hl i ((h.down j hj).block i e).2).trans (h.dlab j hj i e)
  · have := hb i hi e2; have := h.clab j hj i e; omega
  · exact (hl i ((h.cown j hj).block i e).2).trans (h.clab j hj i e)
theorem TS.below (h : TS w B b M lab g vd vc vk vb p ks kk D C t) (hb : Below w.heap.size w w') : TS w' B b M lab g vd vc vk vb p ks kk D C t :=
  ⟨h.trs.gr (bad := fun _ => False) (Gr.of_below hb) (fun _ _ e => e.elim) (fun _ _ => rfl), h.kown.below hb, h.klab, h.bl.below hb, h.blab, h.vlab⟩
/-- a line is written -/
theorem TS.write {vb' p' : Value} {t' : List UInt8} (h : TS w B b M lab g vd vc vk vb p ks kk D C t) (hg : Gr w w' (blBad b vb)) (hb : Bl w' B b vb' p' t') (hat : vb'.ownBlock = vb.ownBlock ∨ ∃ k, vb'.ownBlock = some k ∧ w.heap.size ≤ k) : ∃ lab', TS w' B b M lab' g vd vc vk vb' p' ks kk D C t' := by
  have hl : ∀ i, i < w.heap.size → (fun i => if w.heap.size ≤ i then 0 else lab i) i = lab i := fun i hi => by
    show (if _ then _ else _) = _
    rw [if_neg (by omega)]
  have hbad : ∀ i, blBad b vb i → lab i = 0 := by
    rintro i (rfl | e)
    · exact h.blab
    · exact h.vlab i e
  refine ⟨fun i => if w.heap.size ≤ i then 0 else lab i, h.trs.gr hg (fun i _ e => .inl (hbad i e)) hl, row_same h.kown fun i hi e => hg.block i hi fun e2 => ?_, fun i e => (hl i (h.kown.block i e).2).trans (h.klab i e), hb, (hl b h.bl.lt).trans h.blab, fun i e => ?_⟩
  · have := hbad i e2; have := h.klab i e; omega
  · rcases hat with e2 | ⟨k, e2, hk⟩
    · rw [e2] at e
      exact (hl i (h.bl.vlt i e).2).trans (h.vlab i e)
    · rw [e2] at e
      cases e
      show (if _ then _ else _) = 0
      rw [if_pos hk]
/-- a currency is put to the others -/
theorem TS.key {vk' : Value} {k2 : List ByteArray} (h : TS w B b M lab g vd vc vk vb p ks kk D C t) (hg : w.grownBy w' vk.ownBlock) (ho : Own w' B 9 1 strEnc vk' k2) (hat : vk'.ownBlock = vk.ownBlock ∨ vk'.ownBlock = some w.heap.size) : ∃ lab', TS w' B b M lab' g vd vc vk' vb p ks k2 D C t := by
  have hl : ∀ i, i < w.heap.size → (fun i => if w.heap.size ≤ i then 2 else lab i) i = lab i := fun i hi => by
    show (if _ then _ else _) = _
    rw [if_neg (by omega)]
  have hgr : Gr w w' (fun i => vk.ownBlock = some i) := Gr.of_grown hg fun i e => e
  refine ⟨fun i => if w.heap.size ≤ i then 2 else lab i, h.trs.gr hgr (fun i _ e => .inr (h.klab i e)) hl, ho, fun i e => ?_, h.bl.gr hgr (fun e => ?_) (fun i e e2 => ?_), (hl b h.bl.lt).trans h.blab, fun i e => (hl i (h.bl.vlt i e).2).trans (h.vlab i e)⟩
  · rcases hat with e2 | e2
    · rw [e2] at e
      exact (hl i (h.kown.block i e).2).trans (h.klab i e)
    · rw [e2] at e
      cases e
      show (if _ then _ else _) = 2
      rw [if_pos (Nat.le_refl _)]
  · have := h.klab b e; have := h.blab; omega
  · have := h.klab i e2; have := h.vlab i e; omega

def vSet (vd : Nat → Value) (n : Nat) (v : Value) (j : Nat) : Value := if j = n then v else vd j
theorem vSet_eq (vd : Nat → Value) (n : Nat) (v : Value) : vSet vd n v n = v := if_pos rfl
theorem vSet_ne (vd : Nat → Value) {n j : Nat} (v : Value) (h : j ≠ n) : vSet vd n v j = vd j := if_neg h
theorem gSet_eq (g : Nat → Nat) (n f : Nat) : gSet g n f n = f := if_pos rfl
theorem gSet_ne (g : Nat → Nat) {n j : Nat} (f : Nat) (h : j ≠ n) : gSet g n f j = g j := if_neg h

/-- a currency's turns are made, and put into the map -/
theorem TS.new {W w2 : World} {f : Nat} {k : ByteArray} (h : TS w B b M lab g vd vc vk vb p ks kk D C t) (hB : B ≤ w.heap.size) (hb : Below w.heap.size w W) (hf : W.heap[f]? = some (.cells #[.slice none 0 0, .slice none 0 0] 53 (0, 0))) (hfw : w.heap.size ≤ f)
    (hm : TMap w2 M (ks ++ [k]) (gSet g ks.length f)) (hg : W.grownBy w2 (some M)) (hD : D k = []) (hC : C k = []) :
    ∃ lab', TS w2 B b M lab' (gSet g ks.length f) (vSet vd ks.length (.slice none 0 0)) (vSet vc ks.length (.slice none 0 0)) vk vb p (ks ++ [k]) kk D C t := by
  have hM := h.trs.map.lt
  have hl : ∀ i, i < w.heap.size → (fun i => if w.heap.size ≤ i then 3 * ks.length + 3 else lab i) i = lab i := fun i hi => by
    show (if _ then _ else _) = _
    rw [if_neg (by omega)]
  have hgr : Gr w w2 (fun i => i = M) := (Gr.of_below hb).trans (Gr.of_grown hg fun i e => by cases e; rfl)
  have hbM : b ≠ M := fun e => by have := h.blab; rw [e, h.trs.mlab] at this; cases this
  have hne : ∀ i, i < w.heap.size → lab i ≠ 1 → w2.heap[i]? = w.heap[i]? := fun i hi h1 => hgr.block i hi fun e => h1 (by rw [e]; exact h.trs.mlab)
  refine ⟨fun i => if w.heap.size ≤ i then 3 * ks.length + 3 else lab i, ⟨hm, h.trs.mlo, (hl M hM).trans h.trs.mlab, fun j hj => ?_, fun j hj => ?_, fun j hj => ?_, fun j hj => ?_, fun j hj i e => ?_, fun j hj => ?_, fun j hj i e => ?_⟩, row_same h.kown fun i hi e => hne i hi ?_, fun i e => (hl i (h.kown.block i e).2).trans (h.klab i e), h.bl.gr hgr hbM (fun i e e2 => ?_), (hl b h.bl.lt).trans h.blab, fun i e => (hl i (h.bl.vlt i e).2).trans (h.vlab i e)⟩
  · rw [List.length_append, List.length_singleton] at hj
    by_cases e : j = ks.length
    · rw [e, gSet_eq]; omega
    · rw [gSet_ne _ _ e]; exact h.trs.glo j (by omega)
  · rw [List.length_append, List.length_singleton] at hj
    by_cases e : j = ks.length
    · rw [e, gSet_eq]
      show (if _ then _ else _) = _
      rw [if_pos hfw]
    · rw [gSet_ne _ _ e]; exact (hl _ (h.trs.glt (by omega))).trans (h.trs.glab j (by omega))
  · rw [List.length_append, List.length_singleton] at hj
    by_cases e : j = ks.length
    · rw [e, gSet_eq, vSet_eq, vSet_eq, hg.block f (Array.getElem?_eq_some_iff.1 hf).1 (fun e => by injection e with e; omega)]; exact hf
    · rw [gSet_ne _ _ e, vSet_ne _ _ e, vSet_ne _ _ e, hne _ (h.trs.glt (by omega)) (by rw [h.trs.glab j (by omega)]; omega)]; exact h.trs.cell j (by omega)
  · rw [List.length_append, List.length_singleton] at hj
    by_cases e : j = ks.length
    · subst e
      rw [vSet_eq]
      have : (ks ++ [k])[ks.length]'(by simp) = k := by simp
      rw [this, hD]; exact Own.nil _ _ _ _ _
    · have h2 : j < ks.length := by omega
      rw [vSet_ne _ _ e, List.getElem_append_left h2]
      exact row_same (h.trs.down j h2) fun i hi e2 => hne i hi (by rw [h.trs.dlab j h2 i e2]; omega)
  · rw [List.length_append, List.length_singleton] at hj
    by_cases e2 : j = ks.length
    · rw [e2, vSet_eq] at e; cases e
    · rw [vSet_ne _ _ e2] at e
      have h2 : j < ks.length := by omega
      exact (hl i ((h.trs.down j h2).block i e).2).trans (h.trs.dlab j h2 i e)
  · rw [List.length_append, List.length_singleton] at hj
    by_cases e : j = ks.length
    · subst e
      rw [vSet_eq]
      have : (ks ++ [k])[ks.length]'(by simp) = k := by simp
      rw [this, hC]; exact Own.nil _ _ _ _ _
    · have h2 : j < ks.length := by omega
      rw [vSet_ne _ _ e, List.getElem_append_left h2]
      exact row_same (h.trs.cown j h2) fun i hi e2 => hne i hi (by rw [h.trs.clab j h2 i e2]; omega)
  · rw [List.length_append, List.length_singleton] at hj
    by_cases e2 : j = ks.length
    · rw [e2, vSet_eq] at e; cases e
    · rw [vSet_ne _ _ e2] at e
      have h2 : j < ks.length := by omega
      exact (hl i ((h.trs.cown j h2).block i e).2).trans (h.trs.clab j h2 i e)
  · rw [h.klab i e]; omega
  · have := h.vlab i e; rw [e2, h.trs.mlab] at this; cases this

/-- to the debits an amount is put to -/
theorem TS.pushD {w2 : World} {v' : Value} {j : Nat} {n : Int} {D' C' : ByteArray → List Int} (h : TS w B b M lab g vd vc vk vb p ks kk D C t) (hj : j < ks.length) (hg : w.grownBy w2 (vd j).ownBlock) (ho : Own w2 B 3 1 intEnc2 v' (D ks[j] ++ [n])) (hat : v'.ownBlock = (vd j).ownBlock ∨ v'.ownBlock = some w.heap.size)
    (h1 : D' ks[j] = D ks[j] ++ [n]) (h2 : ∀ i (hi : i < ks.length), i ≠ j → D' ks[i] = D ks[i]) (h3 : ∀ i (hi : i < ks.length), C' ks[i] = C ks[i]) :
    ∃ lab', TS (w2.setCell ⟨g j, 0, none⟩ v') B b M lab' g (vSet vd j v') vc vk vb p ks kk D' C' t := by
  have hM := h.trs.map.lt
  have hgj := h.trs.glt hj
  have hlj := h.trs.glab j hj
  have hl : ∀ i, i < w.heap.size → (fun i => if w.heap.size ≤ i then 3 * j + 4 else lab i) i = lab i := fun i hi => by
    show (if _ then _ else _) = _
    rw [if_neg (by omega)]
  have hbad : ∀ i, (i = g j ∨ (vd j).ownBlock = some i) → lab i = 3 * j + 3 ∨ lab i = 3 * j + 4 := by
    rintro i (rfl | e)
    · exact .inl hlj
    · exact .inr (h.trs.dlab j hj i e)
  have hgr2 : Gr w2 (w2.setCell ⟨g j, 0, none⟩ v') (fun i => i = g j ∨ (vd j).ownBlock = some i) := Gr.of_grown (row := some (g j)) (only_setCell (only_refl _ _) _ _) fun i e => by cases e; exact .inl rfl
  have hgr : Gr w (w2.setCell ⟨g j, 0, none⟩ v') (fun i => i = g j ∨ (vd j).ownBlock = some i) := (Gr.of_grown hg fun i e => .inr e).trans hgr2
  have hne : ∀ i, i < w.heap.size → lab i ≠ 3 * j + 3 → lab i ≠ 3 * j + 4 → (w2.setCell ⟨g j, 0, none⟩ v').heap[i]? = w.heap[i]? := fun i hi a1 a2 => hgr.block i hi fun e => (hbad i e).elim a1 a2
  have hv' : v'.ownBlock ≠ some (g j) := fun e => by
    rcases hat with e2 | e2
    · rw [e2] at e
      have := h.trs.dlab j hj _ e; omega
    · rw [e2] at e
      injection e with e
      omega
  refine ⟨fun i => if w.heap.size ≤ i then 3 * j + 4 else lab i, ⟨h.trs.map.same (hne M hM (by rw [h.trs.mlab]; omega) (by rw [h.trs.mlab]; omega)), h.trs.mlo, (hl M hM).trans h.trs.mlab, h.trs.glo, fun i hi => (hl _ (h.trs.glt hi)).trans (h.trs.glab i hi), fun i hi => ?_, fun i hi => ?_, fun i hi q e => ?_, fun i hi => ?_, fun i hi q e => ?_⟩, row_same h.kown fun i hi e => hne i hi ?_ ?_, fun i e => (hl i (h.kown.block i e).2).trans (h.klab i e), h.bl.gr hgr (fun e => ?_) (fun i e e2 => ?_), (hl b h.bl.lt).trans h.blab, fun i e => (hl i (h.bl.vlt i e).2).trans (h.vlab i e)⟩
  · by_cases e : i = j
    · subst e
      have hb2 : w2.heap[g i]? = some (.cells #[vd i, vc i] 53 (0, 0)) := (hg.block (g i) hgj fun e => by have := h.trs.dlab i hj _ e.symm; omega).trans (h.trs.cell i hi)
      rw [vSet_eq]
      simp [World.setCell, Array.getElem?_modify, hb2]
    · rw [vSet_ne _ _ e, hne _ (h.trs.glt hi) (by rw [h.trs.glab i hi]; omega) (by rw [h.trs.glab i hi]; omega)]; exact h.trs.cell i hi
  · by_cases e : i = j
    · subst e
      rw [vSet_eq, h1]
      exact ho.grown (row := some (g i)) (only_setCell (only_refl _ _) _ _) (.inr hv')
    · rw [vSet_ne _ _ e, h2 i hi e]
      exact row_same (h.trs.down i hi) fun q hq e2 => hne q hq (by rw [h.trs.dlab i hi q e2]; omega) (by rw [h.trs.dlab i hi q e2]; omega)
  · by_cases e2 : i = j
    · subst e2
      rw [vSet_eq] at e
      rcases hat with e3 | e3
      · rw [e3] at e
        exact (hl q ((h.trs.down i hi).block q e).2).trans (h.trs.dlab i hi q e)
      · rw [e3] at e
        cases e
        show (if _ then _ else _) = _
        rw [if_pos (Nat.le_refl _)]
    · rw [vSet_ne _ _ e2] at e
      exact (hl q ((h.trs.down i hi).block q e).2).trans (h.trs.dlab i hi q e)
  · rw [h3 i hi]
    exact row_same (h.trs.cown i hi) fun q hq e2 => hne q hq (by rw [h.trs.clab i hi q e2]; omega) (by rw [h.trs.clab i hi q e2]; omega)
  · exact (hl q ((h.trs.cown i hi).block q e).2).trans (h.trs.clab i hi q e)
  · rw [h.klab i e]; omega
  · rw [h.klab i e]; omega
  · have := hbad b e; have := h.blab; omega
  · have := hbad i e2; have := h.vlab i e; omega

/-- to the credits an amount is put to -/
theorem TS.pushC {w2 : World} {v' : Value} {j : Nat} {n : Int} {D' C' : ByteArray → List Int} (h : TS w B b M lab g vd vc vk vb p ks kk D C t) (hj : j < ks.length) (hg : w.grownBy w2 (vc j).ownBlock) (ho : Own w2 B 3 1 intEnc2 v' (C ks[j] ++ [n])) (hat : v'.ownBlock = (vc j).ownBlock ∨ v'.ownBlock = some w.heap.size)
    (h1 : C' ks[j] = C ks[j] ++ [n]) (h2 : ∀ i (hi : i < ks.length), i ≠ j → C' ks[i] = C ks[i]) (h3 : ∀ i (hi : i < ks.length), D' ks[i] = D ks[i]) :
    ∃ lab', TS (w2.setCell ⟨g j, 1, none⟩ v') B b M lab' g vd (vSet vc j v') vk vb p ks kk D' C' t := by
  have hM := h.trs.map.lt
  have hgj := h.trs.glt hj
  have hlj := h.trs.glab j hj
  have hl : ∀ i, i < w.heap.size → (fun i => if w.heap.size ≤ i then 3 * j + 5 else lab i) i = lab i := fun i hi => by
    show (if _ then _ else _) = _
    rw [if_neg (by omega)]
  have hbad : ∀ i, (i = g j ∨ (vc j).ownBlock = some i) → lab i = 3 * j + 3 ∨ lab i = 3 * j + 5 := by
    rintro i (rfl | e)
    · exact .inl hlj
    · exact .inr (h.trs.clab j hj i e)
  have hgr2 : Gr w2 (w2.setCell ⟨g j, 1, none⟩ v') (fun i => i = g j ∨ (vc j).ownBlock = some i) := Gr.of_grown (row := some (g j)) (only_setCell (only_refl _ _) _ _) fun i e => by cases e; exact .inl rfl
  have hgr : Gr w (w2.setCell ⟨g j, 1, none⟩ v') (fun i => i = g j ∨ (vc j).ownBlock = some i) := (Gr.of_grown hg fun i e => .inr e).trans hgr2
  have hne : ∀ i, i < w.heap.size → lab i ≠ 3 * j + 3 → lab i ≠ 3 * j + 5 → (w2.setCell ⟨g j, 1, none⟩ v').heap[i]? = w.heap[i]? := fun i hi a1 a2 => hgr.block i hi fun e => (hbad i e).elim a1 a2
  have hv' : v'.ownBlock ≠ some (g j) := fun e => by
    rcases hat with e2 | e2
    · rw [e2] at e
      have := h.trs.clab j hj _ e; omega
    · rw [e2] at e
      injection e with e
      omega
  refine ⟨fun i => if w.heap.size ≤ i then 3 * j + 5 else lab i, ⟨h.trs.map.same (hne M hM (by rw [h.trs.mlab]; omega) (by rw [h.trs.mlab]; omega)), h.trs.mlo, (hl M hM).trans h.trs.mlab, h.trs.glo, fun i hi => (hl _ (h.trs.glt hi)).trans (h.trs.glab i hi), fun i hi => ?_, fun i hi => ?_, fun i hi q e => ?_, fun i hi => ?_, fun i hi q e => ?_⟩, row_same h.kown fun i hi e => hne i hi ?_ ?_, fun i e => (hl i (h.kown.block i e).2).trans (h.klab i e), h.bl.gr hgr (fun e => ?_) (fun i e e2 => ?_), (hl b h.bl.lt).trans h.blab, fun i e => (hl i (h.bl.vlt i e).2).trans (h.vlab i e)⟩
  · by_cases e : i = j
    · subst e
      have hb2 : w2.heap[g i]? = some (.cells #[vd i, vc i] 53 (0, 0)) := (hg.block (g i) hgj fun e => by have := h.trs.clab i hj _ e.symm; omega).trans (h.trs.cell i hi)
      rw [vSet_eq]
      simp [World.setCell, Array.getElem?_modify, hb2]
    · rw [vSet_ne _ _ e, hne _ (h.trs.glt hi) (by rw [h.trs.glab i hi]; omega) (by rw [h.trs.glab i hi]; omega)]; exact h.trs.cell i hi
  · rw [h3 i hi]
    exact row_same (h.trs.down i hi) fun q hq e2 => hne q hq (by rw [h.trs.dlab i hi q e2]; omega) (by rw [h.trs.dlab i hi q e2]; omega)
  · exact (hl q ((h.trs.down i hi).block q e).2).trans (h.trs.dlab i hi q e)
  · by_cases e : i = j
    · subst e
      rw [vSet_eq, h1]
      exact ho.grown (row := some (g i)) (only_setCell (only_refl _ _) _ _) (.inr hv')
    · rw [vSet_ne _ _ e, h2 i hi e]
      exact row_same (h.trs.cown i hi) fun q hq e2 => hne q hq (by rw [h.trs.clab i hi q e2]; omega) (by rw [h.trs.clab i hi q e2]; omega)
  · by_cases e2 : i = j
    · subst e2
      rw [vSet_eq] at e
      rcases hat with e3 | e3
      · rw [e3] at e
        exact (hl q ((h.trs.cown i hi).block q e).2).trans (h.trs.clab i hi q e)
      · rw [e3] at e
        cases e
        show (if _ then _ else _) = _
        rw [if_pos (Nat.le_refl _)]
    · rw [vSet_ne _ _ e2] at e
      exact (hl q ((h.trs.cown i hi).block q e).2).trans (h.trs.clab i hi q e)
  · rw [h.klab i e]; omega
  · rw [h.klab i e]; omega
  · have := hbad b e; have := h.blab; omega
  · have := hbad i e2; have := h.vlab i e; omega
end

/-- the loop's state -/
def St (w : World) (B b M : Nat) (vk : Value) (ks kk : List ByteArray) (D C : ByteArray → List Int) (t : List UInt8) : Prop := ∃ lab g vd vc vb p, TS w B b M lab g vd vc vk vb p ks kk D C t
/-- .. where the turns of currency k lie in block G -/
def TAt (w : World) (B b M : Nat) (vk : Value) (ks kk : List ByteArray) (D C : ByteArray → List Int) (t : List UInt8) (k : ByteArray) (G : Nat) (v0 v1 : Value) : Prop :=
  ∃ (lab g : Nat → Nat) (vd vc : Nat → Value) (vb p : Value) (j : Nat) (hj : j < ks.length), TS w B b M lab g vd vc vk vb p ks kk D C t ∧ ks[j] = k ∧ g j = G ∧ vd j = v0 ∧ vc j = v1
section
variable {w w' w2 : World} {B b M G : Nat} {vk v0 v1 : Value} {ks kk : List ByteArray} {D C D' C' : ByteArray → List Int} {t : List UInt8} {k : ByteArray}
theorem St.start (w : World) (D C : ByteArray → List Int) : St ((w.alloc (.cells #[.pointer none, .slice none 0 0] 38)).alloc (.map #[] 0)) w.heap.size w.heap.size (w.heap.size + 1) (.slice none 0 0) [] [] D C [] := by
  have hb := (Bl.fresh w).below ((Below.refl _ _).alloc (Nat.le_refl _) (.map #[] 0))
  have hm := TMap.made (w.alloc (.cells #[.pointer none, .slice none 0 0] 38)) (fun _ => 0)
  have hs : (w.alloc (.cells #[.pointer none, .slice none 0 0] 38)).heap.size = w.heap.size + 1 := by simp
  rw [hs] at hm
  refine ⟨fun i => if i = w.heap.size + 1 then 1 else 0, fun _ => 0, fun _ => .slice none 0 0, fun _ => .slice none 0 0, .slice none 0 0, .pointer none, ⟨hm, by omega, if_pos rfl, fun j hj => absurd hj (by simp), fun j hj => absurd hj (by simp), fun j hj => absurd hj (by simp), fun j hj => absurd hj (by simp), fun j hj => absurd hj (by simp), fun j hj => absurd hj (by simp), fun j hj => absurd hj (by simp)⟩, Own.nil _ _ _ _ _, (fun i e => by cases e), hb, if_neg (by omega), (fun i e => by cases e)⟩
theorem St.below (h : St w B b M vk ks kk D C t) (hb : Below w.heap.size w w') : St w' B b M vk ks kk D C t := by
  obtain ⟨lab, g, vd, vc, vb, p, h⟩ := h; exact ⟨lab, g, vd, vc, vb, p, h.below hb⟩
theorem TAt.below (h : TAt w B b M vk ks kk D C t k G v0 v1) (hb : Below w.heap.size w w') : TAt w' B b M vk ks kk D C t k G v0 v1 := by
  obtain ⟨lab, g, vd, vc, vb, p, j, hj, h, r⟩ := h; exact ⟨lab, g, vd, vc, vb, p, j, hj, h.below hb, r⟩
theorem TAt.st (h : TAt w B b M vk ks kk D C t k G v0 v1) : St w B b M vk ks kk D C t := by
  obtain ⟨lab, g, vd, vc, vb, p, j, hj, h, r⟩ := h; exact ⟨lab, g, vd, vc, vb, p, h⟩
theorem St.kown (h : St w B b M vk ks kk D C t) : Own w B 9 1 strEnc vk kk := by
  obtain ⟨lab, g, vd, vc, vb, p, h⟩ := h; exact h.kown
theorem TAt.kown (h : TAt w B b M vk ks kk D C t k G v0 v1) : Own w B 9 1 strEnc vk kk := h.st.kown
theorem TAt.deb (h : TAt w B b M vk ks kk D C t k G v0 v1) : Own w B 3 1 intEnc2 v0 (D k) := by
  obtain ⟨lab, g, vd, vc, vb, p, j, hj, h, rfl, rfl, rfl, rfl⟩ := h; exact h.trs.down j hj
theorem TAt.cre (h : TAt w B b M vk ks kk D C t k G v0 v1) : Own w B 3 1 intEnc2 v1 (C k) := by
  obtain ⟨lab, g, vd, vc, vb, p, j, hj, h, rfl, rfl, rfl, rfl⟩ := h; exact h.trs.cown j hj
theorem TAt.heap (h : TAt w B b M vk ks kk D C t k G v0 v1) : w.heap[G]? = some (.cells #[v0, v1] 53 (0, 0)) := by
  obtain ⟨lab, g, vd, vc, vb, p, j, hj, h, rfl, rfl, rfl, rfl⟩ := h; exact h.trs.cell j hj
theorem TAt.cells (h : TAt w B b M vk ks kk D C t k G v0 v1) : w.cell? ⟨G, 0, none⟩ = some v0 ∧ w.cell? ⟨G, 1, none⟩ = some v1 ∧ w.frozen? ⟨G, 0, none⟩ = false ∧ w.frozen? ⟨G, 1, none⟩ = false ∧ B ≤ G ∧ G < w.heap.size := by
  have hh := h.heap
  refine ⟨by rw [Lib.cell_of_heap hh]; rfl, by rw [Lib.cell_of_heap hh]; rfl, Lib.frozen_of_heap hh 0, Lib.frozen_of_heap hh 1, ?_, (Array.getElem?_eq_some_iff.1 hh).1⟩
  obtain ⟨lab, g, vd, vc, vb, p, j, hj, h, rfl, rfl, rfl, rfl⟩ := h; exact h.trs.glo j hj
theorem TAt.apart (h : TAt w B b M vk ks kk D C t k G v0 v1) : v0.ownBlock ≠ some G ∧ v1.ownBlock ≠ some G := by
  obtain ⟨lab, g, vd, vc, vb, p, j, hj, h, rfl, rfl, rfl, rfl⟩ := h
  exact ⟨fun e => by have := h.trs.dlab j hj _ e; have := h.trs.glab j hj; omega, fun e => by have := h.trs.clab j hj _ e; have := h.trs.glab j hj; omega⟩
theorem St.miss (h : St w B b M vk ks kk D C t) (hk : k ∉ ks) (hs : k.size ≤ maxLen) : (Instr.lookup 44 (.map (some M)) (.string k) false).run Tryz.prog w = .ok (.pointer none) w := by
  obtain ⟨lab, g, vd, vc, vb, p, h⟩ := h
  rw [h.trs.map.lookup k hs, atOf_none hk]
theorem St.find (h : St w B b M vk ks kk D C t) (hk : k ∈ ks) (hs : k.size ≤ maxLen) : ∃ G v0 v1, TAt w B b M vk ks kk D C t k G v0 v1 ∧ (Instr.lookup 44 (.map (some M)) (.string k) false).run Tryz.prog w = .ok (.pointer (some ⟨G, 0, none⟩)) w := by
  obtain ⟨lab, g, vd, vc, vb, p, h⟩ := h
  obtain ⟨j, hj, hkj, ha⟩ := atOf_some (g := g) hk
  exact ⟨g j, vd j, vc j, ⟨lab, g, vd, vc, vb, p, j, hj, h, hkj, rfl, rfl, rfl⟩, by rw [h.trs.map.lookup k hs, ha]⟩
theorem TAt.look (h : TAt w B b M vk ks kk D C t k G v0 v1) (hs : k.size ≤ maxLen) (hn : ks.Nodup) : (Instr.lookup 44 (.map (some M)) (.string k) false).run Tryz.prog w = .ok (.pointer (some ⟨G, 0, none⟩)) w := by
  obtain ⟨lab, g, vd, vc, vb, p, j, hj, h, rfl, rfl, rfl, rfl⟩ := h
  obtain ⟨i, hi, hki, ha⟩ := atOf_some (g := g) (List.getElem_mem hj)
  rw [h.trs.map.lookup _ hs, ha]
  rw [(List.getElem_inj hn).1 hki]
/-- the turns of a new currency -/
theorem St.new {W : World} {f : Nat} (h : St w B b M vk ks kk D C t) (hB : B ≤ w.heap.size) (hb : Below w.heap.size w W) (hf : W.heap[f]? = some (.cells #[.slice none 0 0, .slice none 0 0] 53 (0, 0))) (hfw : w.heap.size ≤ f) (hk : k ∉ ks) (hs : k.size ≤ maxLen) (hl : ks.length < maxLen) (hD : D k = []) (hC : C k = []) :
    ∃ w2, (Instr.mapUpdate 44 (.map (some M)) (.string k) (.pointer (some ⟨f, 0, none⟩))).run Tryz.prog W = .ok () w2 ∧ TAt w2 B b M vk (ks ++ [k]) kk D C t k f (.slice none 0 0) (.slice none 0 0) ∧ W.grownBy w2 (some M) ∧ w2.heap.size = W.heap.size ∧ B ≤ M ∧ M < w.heap.size := by
  obtain ⟨lab, g, vd, vc, vb, p, h⟩ := h
  have hM := h.trs.map.lt
  obtain ⟨w2, r1, r2, r3, r4⟩ := (h.trs.map.same (hb.block M hM)).update k hs hk hl f
  obtain ⟨lab', hn⟩ := h.new hB hb hf hfw r2 r3 hD hC
  exact ⟨w2, r1, ⟨lab', _, _, _, vb, p, ks.length, by simp, hn, by simp, gSet_eq _ _ _, vSet_eq _ _ _, vSet_eq _ _ _⟩, r3, r4, h.trs.mlo, hM⟩
theorem TAt.key {vk' : Value} {x : ByteArray} (h : TAt w B b M vk ks kk D C t k G v0 v1) (hg : w.grownBy w' vk.ownBlock) (ho : Own w' B 9 1 strEnc vk' (kk ++ [x])) (hat : vk'.ownBlock = vk.ownBlock ∨ vk'.ownBlock = some w.heap.size) : TAt w' B b M vk' ks (kk ++ [x]) D C t k G v0 v1 := by
  obtain ⟨lab, g, vd, vc, vb, p, j, hj, h, r⟩ := h
  obtain ⟨lab', h2⟩ := h.key hg ho hat
  exact ⟨lab', g, vd, vc, vb, p, j, hj, h2, r⟩
theorem TAt.pushD {v' : Value} {n : Int} (h : TAt w B b M vk ks kk D C t k G v0 v1) (hn : ks.Nodup) (hg : w.grownBy w2 v0.ownBlock) (ho : Own w2 B 3 1 intEnc2 v' (D k ++ [n])) (hat : v'.ownBlock = v0.ownBlock ∨ v'.ownBlock = some w.heap.size)
    (h1 : D' k = D k ++ [n]) (h2 : ∀ y, y ≠ k → D' y = D y) (h3 : ∀ y, C' y = C y) : St (w2.setCell ⟨G, 0, none⟩ v') B b M vk ks kk D' C' t := by
  obtain ⟨lab, g, vd, vc, vb, p, j, hj, h, rfl, rfl, rfl, rfl⟩ := h
  obtain ⟨lab', h4⟩ := h.pushD hj hg ho hat h1 (fun i hi hij => h2 _ fun e => hij ((List.getElem_inj hn).1 e)) (fun i hi => h3 _)
  exact ⟨lab', g, _, _, vb, p, h4⟩
theorem TAt.pushC {v' : Value} {n : Int} (h : TAt w B b M vk ks kk D C t k G v0 v1) (hn : ks.Nodup) (hg : w.grownBy w2 v1.ownBlock) (ho : Own w2 B 3 1 intEnc2 v' (C k ++ [n])) (hat : v'.ownBlock = v1.ownBlock ∨ v'.ownBlock = some w.heap.size)
    (h1 : C' k = C k ++ [n]) (h2 : ∀ y, y ≠ k → C' y = C y) (h3 : ∀ y, D' y = D y) : St (w2.setCell ⟨G, 1, none⟩ v') B b M vk ks kk D' C' t := by
  obtain ⟨lab, g, vd, vc, vb, p, j, hj, h, rfl, rfl, rfl, rfl⟩ := h
  obtain ⟨lab', h4⟩ := h.pushC hj hg ho hat h1 (fun i hi hij => h2 _ fun e => hij ((List.getElem_inj hn).1 e)) (fun i hi => h3 _)
  exact ⟨lab', g, _, _, vb, p, h4⟩
theorem St.key {vk' : Value} {k2 : List ByteArray} (h : St w B b M vk ks kk D C t) (hg : w.grownBy w' vk.ownBlock) (ho : Own w' B 9 1 strEnc vk' k2) (hat : vk'.ownBlock = vk.ownBlock ∨ vk'.ownBlock = some w.heap.size) : St w' B b M vk' ks k2 D C t := by
  obtain ⟨lab, g, vd, vc, vb, p, h⟩ := h
  obtain ⟨lab', h2⟩ := h.key hg ho hat
  exact ⟨lab', g, vd, vc, vb, p, h2⟩
/-- a line -/
theorem st_line (ss : List ByteArray) (g n : Nat) (h : St w B b M vk ks kk D C t) (hn : ss.length = n) (h0 : 0 < n) (h10 : n ≤ 10) (hr : Rd w 1 strEnc (some ⟨g, 0, none⟩) n ss) (hB : B ≤ w.heap.size) (hl : (joinL (wordsL ss)).length ≤ 1000000000) (hlt : t.length ≤ 100000000000000) :
    Calls Tryz.prog 9 #[.slice (some ⟨g, 0, none⟩) n n, .pointer (some ⟨b, 0, none⟩)] w fun e w' => e = .returned (.tuple #[]) ∧ St w' B b M vk ks kk D C (t ++ lineL (wordsL ss)) ∧ Below B w w' ∧ ∀ i cs T fr, i ≠ b → T ≠ 5 → w.heap[i]? = some (.cells cs T fr) → w'.heap[i]? = some (.cells cs T fr) := by
  obtain ⟨lab, g', vd, vc, vb, p, h⟩ := h
  refine (line_any ss g n B b vb p t w hn h0 h10 hr h.bl hB hl hlt).mono ?_
  rintro e w' ⟨v', rfl, h1, h2, h3⟩
  obtain ⟨lab', h4⟩ := h.write h3 h1 h2
  refine ⟨rfl, ⟨lab', g', vd, vc, v', _, h4⟩, h3.below ?_ hB, fun i cs T fr hib hT hh => ?_⟩
  · rintro i (rfl | e)
    · exact h.bl.lo
    · exact (h.bl.vlt i e).1
  · refine (h3.block i (Array.getElem?_eq_some_iff.1 hh).1 ?_).trans hh
    rintro (e | e)
    · exact hib e
    · rcases h.bl.own.2 with ⟨hv, _⟩ | ⟨g, cap, cur, hv, _, hg, _⟩
      · rw [hv] at e; cases e
      · rw [hv] at e
        injection e with e
        have e2 : g = i := e
        subst e2
        rw [hg] at hh
        injection hh with hh
        injection hh with _ hh
        exact hT hh.symm
end
end Go.Proofs.YtjojjicpdfmopaaGreatDoor
