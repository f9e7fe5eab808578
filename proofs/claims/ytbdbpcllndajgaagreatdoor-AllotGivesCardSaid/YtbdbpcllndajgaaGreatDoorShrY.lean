/- Numbers that are kept side by side: what is cut off, beside what is left. -/
import Derived.Test.YtbdbpcllndajgaaGreatDoorBigZ
import Derived.Test.YtbdbpcllndajgaaGreatDoorShrP
import Derived.Test.YtbdbpcllndajgaaGreatDoorGivX
import Derived.Test.YtbdbpcllndajgaaGreatDoorShel2
import Derived.Shelf.SlSortCmp.Insertion
import Derived.LoopN
import Derived.Test.YtbdbpcllndajgaaGreatDoorAloP
import Derived.Deep.CutRange
namespace Go.Proofs.YtbdbpcllndajgaaGreatDoor
open Go Go.RowKit
set_option linter.unusedVariables false

/-- a number hangs on its blocks alone -/
theorem BigAt.blocks {w w' : World} {B g : Nat} {V : Value} {x : Int} (h : BigAt w B g V x) (h1 : w'.heap[g]? = w.heap[g]?) (h2 : ∀ b, V.ownBlock = some b → w'.heap[b]? = w.heap[b]?) : BigAt w' B g V x := by
  have hc : ∀ o, w'.cell? ⟨g, o, none⟩ = w.cell? ⟨g, o, none⟩ := fun o => by unfold World.cell?; simp only [h1]
  have hf : ∀ o, w'.frozen? ⟨g, o, none⟩ = w.frozen? ⟨g, o, none⟩ := fun o => by unfold World.frozen?; simp only [h1]
  refine ⟨h.gB, (hc 0).trans h.c0, (hc 1).trans h.c1, fun q => (hf q).trans (h.fr q), ⟨⟨h.wds.own.1, ?_⟩, h.wds.cap⟩, h.vg⟩
  rcases h.wds.own.2 with h3 | ⟨g', cap, cur, e, hB, hg, hr⟩
  · exact .inl h3
  · refine .inr ⟨g', cap, cur, e, hB, ?_, hr⟩
    rw [h2 g' (by rw [e]; rfl)]
    exact hg
theorem Blk.blocks {w w' : World} {g : Nat} (h : Blk w g) (h1 : w'.heap[g]? = w.heap[g]?) : Blk w' g := by
  obtain ⟨cs, t, e⟩ := h
  exact ⟨cs, t, h1.trans e⟩
theorem BigAt.own_lt {w : World} {B g : Nat} {V : Value} {x : Int} (h : BigAt w B g V x) {b : Nat} (hb : V.ownBlock = some b) : b < w.heap.size ∧ B ≤ b := ⟨(h.wds.own.block b hb).2, (h.wds.own.block b hb).1⟩

/-- numbers one behind the other, apart from what is left -/
structure Cuts (w : World) (B : Nat) (VL : Value) (i : Nat) (gs : Nat → Nat) (Vs : Nat → Value) (ms : Nat → Int) : Prop where
  at_ : ∀ j, j < i → BigAt w B (gs j) (Vs j) (ms j) ∧ Blk w (gs j) ∧ VL.ownBlock ≠ some (gs j) ∧ ∀ b, VL.ownBlock = some b → (Vs j).ownBlock ≠ some b
  inc : ∀ j k, j < k → k < i → gs j < gs k
section
variable {w w' : World} {B i : Nat} {VL VL' : Value} {gs : Nat → Nat} {Vs : Nat → Value} {ms : Nat → Int}
theorem Cuts.nil (w : World) (B : Nat) (VL : Value) (gs : Nat → Nat) (Vs : Nat → Value) (ms : Nat → Int) : Cuts w B VL 0 gs Vs ms := ⟨fun j hj => absurd hj (Nat.not_lt_zero _), fun j k _ hk => absurd hk (Nat.not_lt_zero _)⟩
theorem Cuts.below (h : Cuts w B VL i gs Vs ms) (hb : Below w.heap.size w w') : Cuts w' B VL i gs Vs ms :=
  ⟨fun j hj => by obtain ⟨h1, h2, h3⟩ := h.at_ j hj; exact ⟨h1.below hb, h2.below hb, h3⟩, h.inc⟩
theorem Cuts.row (h : Cuts w B VL i gs Vs ms) {g : Nat} (hg : w.grownBy w' (some g)) (hB : g < B) : Cuts w' B VL i gs Vs ms :=
  ⟨fun j hj => by
    obtain ⟨h1, h2, h3⟩ := h.at_ j hj
    have hne : gs j ≠ g := by have := h1.gB; omega
    have hno : (Vs j).ownBlock ≠ some g := fun e => by have := (h1.own_lt e).2; omega
    exact ⟨h1.grownK hg hne hno, h2.grown hg (fun e => hne (by injection e with e; exact e.symm)), h3⟩, h.inc⟩
/-- what is left turns, and nothing else -/
theorem Cuts.left (h : Cuts w B VL i gs Vs ms) {gl : Nat} (hgl : gl < B) (hf : ∀ b, b < w.heap.size → b ≠ gl → VL.ownBlock ≠ some b → w'.heap[b]? = w.heap[b]?) (hv : VL'.ownBlock = VL.ownBlock ∨ ∃ k, VL'.ownBlock = some k ∧ w.heap.size ≤ k) : Cuts w' B VL' i gs Vs ms :=
  ⟨fun j hj => by
    obtain ⟨h1, h2, h3, h4⟩ := h.at_ j hj
    have e1 := hf (gs j) h1.lt (by have := h1.gB; omega) h3
    have e2 : ∀ b, (Vs j).ownBlock = some b → w'.heap[b]? = w.heap[b]? := fun b hb => hf b (h1.own_lt hb).1 (by have := (h1.own_lt hb).2; omega) (fun e => h4 b e hb)
    refine ⟨h1.blocks e1 e2, h2.blocks e1, ?_, ?_⟩
    · rcases hv with e | ⟨k, e, hk⟩
      · rw [e]; exact h3
      · rw [e]; intro e2; injection e2 with e2; have := h1.lt; omega
    · intro b hb hb2
      rcases hv with e | ⟨k, e, hk⟩
      · exact h4 b (e ▸ hb) hb2
      · rw [e] at hb; injection hb with hb; have := (h1.own_lt hb2).1; omega, h.inc⟩
theorem Cuts.push (h : Cuts w B VL i gs Vs ms) {g : Nat} {V : Value} {m : Int} (h1 : BigAt w B g V m) (h2 : Blk w g) (h3 : VL.ownBlock ≠ some g) (h4 : ∀ b, VL.ownBlock = some b → V.ownBlock ≠ some b) (hm : ms i = m) (hi : ∀ j, j < i → gs j < g) :
    Cuts w B VL (i + 1) (fun j => if j = i then g else gs j) (fun j => if j = i then V else Vs j) ms :=
  ⟨fun j hj => by
    by_cases e : j = i
    · subst e
      simp only [if_true]
      rw [hm]
      exact ⟨h1, h2, h3, h4⟩
    · simp only [if_neg e]
      exact h.at_ j (by omega), fun j k hjk hk => by
    by_cases e : k = i
    · simp only [if_pos e, if_neg (show j ≠ i by omega)]
      exact hi j (by omega)
    · simp only [if_neg e, if_neg (show j ≠ i by omega)]
      exact h.inc j k hjk (by omega)⟩
end
theorem VRow.other {w : World} {g e n : Nat} {F : Nat → Value} (h : VRow w g e n F) {q : Nat} (hne : g ≠ q) (i : Nat) (v : Value) : VRow (w.setCell ⟨q, i, none⟩ v) g e n F := (Below.heap_setCell w ⟨q, i, none⟩ v g hne).trans h
theorem VRow.blocks {w w' : World} {g e n : Nat} {F : Nat → Value} (h : VRow w g e n F) (h1 : w'.heap[g]? = w.heap[g]?) : VRow w' g e n F := h1.trans h
/-- what a share's turn finds: three rows, and two numbers -/
structure ShI (W : World) (go gc gr gb n : Nat) (FO FC FR : Nat → Value) (B gq gm : Nat) (V R : Value) (q x : Int) : Prop where
  out : VRow W go 3 n FO
  cut : VRow W gc 93 n FC
  ord : VRow W gr 3 n FR
  box : W.cell? ⟨gb, 0, none⟩ = some (.slice (some ⟨gc, 0, none⟩) n n)
  q : BigAt W B gq V q
  m : BigAt W B gm R x
  kq : Blk W gq
  km : Blk W gm
section
variable {W : World} {go gc gr gb n : Nat} {FO FC FR : Nat → Value} {B gq gm : Nat} {V R : Value} {q x : Int}
theorem ShI.drewN (h : ShI W go gc gr gb n FO FC FR B gq gm V R q x) (k : Nat) : ShI (W.drewN k) go gc gr gb n FO FC FR B gq gm V R q x :=
  ⟨h.out, h.cut, h.ord, h.box, h.q.below (bdrewN (Below.refl _ _) k), h.m.below (bdrewN (Below.refl _ _) k), h.kq, h.km⟩
theorem ShI.absd (h : ShI W go gc gr gb n FO FC FR B gq gm V R q x) (h1 : go ≠ gm) (h2 : gc ≠ gm) (h3 : gr ≠ gm) (h4 : gb ≠ gm) (h5 : gq ≠ gm) (h6 : V.ownBlock ≠ some gm) :
    ShI (W.setCell ⟨gm, 0, none⟩ (.bool false)) go gc gr gb n FO FC FR B gq gm V R q (x.natAbs : Int) :=
  ⟨h.out.other h1 0 _, h.cut.other h2 0 _, h.ord.other h3 0 _, (World.cell?_setCell_other _ _ _ _ (by simp)).trans h.box, h.q.grownK (only_setCell (only_refl W (some gm)) 0 _) h5 h6, h.m.absd 0, h.kq.setCell gm 0 _, h.km.setCell gm 0 _⟩
end
set_option maxRecDepth 100000 in
theorem bigSign_any (B g : Nat) (V : Value) (x : Int) (w : World) (h : BigAt w B g V x) : Calls Tryz.prog 62 #[.pointer (some ⟨g, 0, none⟩)] w fun e w' => e = .returned (.int .i64 x.sign) ∧ w' = w := by
  obtain ⟨A, c, rfl⟩ := h.form
  have c0 := h.c0
  have c1 := h.c1
  by_cases h0 : x = 0
  · subst h0
    have e0 : (wordsOf (0 : Int).natAbs).length = 0 := rfl
    rw [e0] at c1
    clear h
    go_enter Tryz.func62, Tryz.ntmps62
    go_wp2_with fail
    go_ret
    exact ⟨rfl, rfl⟩
  · have hl := words_pos (v := x.natAbs) (by omega)
    generalize (wordsOf x.natAbs).length = L at c1 hl
    have hl1 : ((L : Int) == 0) = false := by rw [beq_eq_false_iff_ne]; omega
    have hl2 : ¬ L = 0 := by omega
    clear h
    by_cases hx : x < 0
    · have hd : decide (x < 0) = true := by simpa using hx
      have hs : x.sign = -1 := Int.sign_eq_neg_one_of_neg hx
      rw [hd] at c0
      rw [hs]
      go_enter Tryz.func62, Tryz.ntmps62
      go_wp2_with fail
      go_ret
      exact ⟨rfl, rfl⟩
    · have hd : decide (x < 0) = false := by simpa using hx
      have hs : x.sign = 1 := Int.sign_eq_one_of_pos (by omega)
      rw [hd] at c0
      rw [hs]
      go_enter Tryz.func62, Tryz.ntmps62
      go_wp2_with fail
      go_ret
      exact ⟨rfl, rfl⟩
theorem VRow.ownInts {w : World} {g n B : Nat} {F : Nat → Value} {l : List Int} (h : VRow w g 3 n F) (hl : l.length = n) (hF : ∀ j, j < n → F j = .int .i64 (l.getD j 0)) (hB : B ≤ g) (hm : n ≤ maxLen) : Own w B 3 1 intEnc2 (.slice (some ⟨g, 0, none⟩) n n) l := by
  subst hl
  refine ⟨by rw [flatMap_len intEnc2_ok], .inr ⟨g, l.length, ((List.range l.length).map F).toArray, rfl, hB, h, Nat.le_refl _, hm, by simp, ?_⟩⟩
  rw [Nat.mul_one]
  have e : ∀ l : List Int, l.flatMap intEnc2 = l.map (fun x => Value.int .i64 x) := by
    intro l
    induction l with
    | nil => rfl
    | cons a l ih => rw [List.flatMap_cons, List.map_cons, ih]; rfl
  rw [e]
  apply List.ext_getElem
  · simp
  · intro j h1 h2
    have hj : j < l.length := by simpa using h2
    simp only [List.getElem_take, List.getElem_map, List.getElem_range]
    refine Eq.trans (b := F j) (by simp) ?_
    rw [hF j hj, List.getD_eq_getElem?_getD, List.getElem?_eq_getElem hj]
    rfl
end Go.Proofs.YtbdbpcllndajgaaGreatDoor

namespace Go.Proofs.YtbdbpcllndajgaaGreatDoor
open Go Go.RowKit
set_option linter.unusedVariables false

/-- what the order hangs on -/
structure ShO (W : World) (gc gb n B : Nat) (gs : Nat → Nat) (Vs : Nat → Value) (ms : Nat → Nat) : Prop where
  box : W.cell? ⟨gb, 0, none⟩ = some (.slice (some ⟨gc, 0, none⟩) n n)
  cut : ∀ j, j < n → W.cell? ⟨gc, j, none⟩ = some (.pointer (some ⟨gs j, 0, none⟩))
  num : ∀ j, j < n → BigAt W B (gs j) (Vs j) (ms j : Int) ∧ Blk W (gs j)
  one : ∀ j, j < n → ms j < W64
  apart : ∀ j k, j < n → k < n → gs j = gs k → ms j = ms k
section
variable {W W' : World} {gc gb n B : Nat} {gs : Nat → Nat} {Vs : Nat → Value} {ms : Nat → Nat}
theorem ShO.drewN (h : ShO W gc gb n B gs Vs ms) (k : Nat) : ShO (W.drewN k) gc gb n B gs Vs ms :=
  ⟨h.box, h.cut, fun j hj => ⟨(h.num j hj).1.below (bdrewN (Below.refl _ _) k), (h.num j hj).2⟩, h.one, h.apart⟩
/-- another row turns -/
theorem ShO.blocks (h : ShO W gc gb n B gs Vs ms) {g : Nat} (hs : W.heap.size ≤ W'.heap.size) (hb : ∀ b, b < W.heap.size → b ≠ g → W'.heap[b]? = W.heap[b]?) (h1 : gb ≠ g) (h2 : gc ≠ g) (h3 : g < B) : ShO W' gc gb n B gs Vs ms := by
  have hc : ∀ q o, q < W.heap.size → q ≠ g → W'.cell? ⟨q, o, none⟩ = W.cell? ⟨q, o, none⟩ := fun q o hq hne => by unfold World.cell?; simp only [hb q hq hne]
  refine ⟨(hc _ _ (World.block_lt_of_cell? _ _ h.box) h1).trans h.box, fun j hj => (hc _ _ (World.block_lt_of_cell? _ _ (h.cut j hj)) h2).trans (h.cut j hj), fun j hj => ?_, h.one, h.apart⟩
  obtain ⟨k1, k2⟩ := h.num j hj
  have e1 := hb (gs j) k1.lt (by have := k1.gB; omega)
  exact ⟨k1.blocks e1 (fun b hb2 => hb b (k1.own_lt hb2).1 (by have := (k1.own_lt hb2).2; omega)), k2.blocks e1⟩
end
set_option maxHeartbeats 1000000 in
set_option maxRecDepth 100000 in
theorem shClo (gc gb n B : Nat) (gs : Nat → Nat) (Vs : Nat → Value) (ms : Nat → Nat) (a b : Nat) (ha : a < n) (hb : b < n) (W : World) (h : ShO W gc gb n B gs Vs ms) :
    Calls Tryz.prog 60 #[.int .i64 (a : Int), .int .i64 (b : Int), .pointer (some ⟨gb, 0, none⟩)] W fun e w' => e = .returned (.int .i64 (cmpN (ms b) (ms a))) ∧ ∃ q, w' = W.drewN q := by
  have z0 := h.box
  have z1 := h.cut a ha
  have z2 := h.cut b hb
  have HC : Hid (∀ k, Calls Tryz.prog 61 #[.pointer (some ⟨gs b, 0, none⟩), .pointer (some ⟨gs a, 0, none⟩)] (W.drewN k) fun e w' => e = .returned (.int .i64 (cmpN (ms b) (ms a))) ∧ ∃ q, w' = (W.drewN k).drewN q) := by
    intro k
    have h := h.drewN k
    obtain ⟨k1, k2⟩ := h.num a ha
    obtain ⟨k3, k4⟩ := h.num b hb
    obtain ⟨YA, yn, yc, rfl', hr⟩ := k1.rd (by rw [Int.natAbs_natCast]; exact h.one a ha)
    exact bigCmp_pos B (gs b) (gs a) yn yc (ms b) (ms a) (Vs b) YA _ k3 (Nat.lt_trans (h.one b hb) (by decide)) hr k4 k2 (fun e => h.apart b a hb ha e)
  have a0 : (0 : Int) ≤ (a : Int) := by omega
  have a1 : (a : Int) < (n : Int) := by omega
  have b0 : (0 : Int) ≤ (b : Int) := by omega
  have b1 : (b : Int) < (n : Int) := by omega
  clear h ha hb
  go_enter Tryz.func60, Tryz.ntmps60
  go_wp2_with fail
  go_quiet ((go_at_call 61; exact Calls.quiet_of (HC.out _)))
  go_wp2_with fail
  go_ret
  exact ⟨rfl, _, rfl⟩

section
variable {n : Nat} [Inhabited (Fin n)] {w : World} {g e : Nat} {F : Nat → Value}
def ordEnc (k : Fin n) : Value := .int .i64 (k.val : Int)
theorem sortRow (h : VRow w g e n F) (m : Nat) (os : Array Obj) (dk : Array (Fin n)) (hs : dk.size = n) :
    VRow (Go.Proofs.sortWorld ordEnc w g 0 m dk os) g e n (fun j => ordEnc dk[j]!) ∧ (Go.Proofs.sortWorld ordEnc w g 0 m dk os).heap.size = w.heap.size + os.size ∧ ∀ b, b < w.heap.size → b ≠ g → (Go.Proofs.sortWorld ordEnc w g 0 m dk os).heap[b]? = w.heap[b]? := by
  have hlt := h.lt
  refine ⟨?_, ?_, fun b hb hne => ?_⟩
  · show ((w.heap.modify g (Go.Sort.onCells (Go.Sort.putCells ordEnc 0 dk))) ++ os)[g]? = _
    rw [Array.getElem?_append_left (by simpa using hlt), Array.getElem?_modify, if_pos rfl, show w.heap[g]? = _ from h]
    show some (Obj.cells (Go.Sort.putCells ordEnc 0 dk ((List.range n).map F).toArray) e (0, 0)) = _
    congr 2
    apply Array.ext
    · simp [Go.Sort.putCells]
    · intro j h1 h2
      have hj : j < n := by simpa using h2
      simp [Go.Sort.putCells, hs, hj]
  · show ((w.heap.modify g (Go.Sort.onCells (Go.Sort.putCells ordEnc 0 dk))) ++ os).size = _
    simp
  · show ((w.heap.modify g (Go.Sort.onCells (Go.Sort.putCells ordEnc 0 dk))) ++ os)[b]? = _
    rw [Array.getElem?_append_left (by simpa using hb), Array.getElem?_modify, if_neg (fun e => hne e.symm)]
end
theorem ordOne {n : Nat} : Go.Proofs.OneCell (ordEnc (n := n)) := fun x => rfl
def cmpO {n : Nat} (ms : Nat → Nat) (x y : Fin n) : Int := cmpN (ms y.val) (ms x.val)
theorem ltOf_O {n : Nat} (ms : Nat → Nat) : Go.Proofs.ltOf (cmpO (n := n) ms) = fun x y => decide (ms y.val < ms x.val) := by
  funext x y
  unfold Go.Proofs.ltOf cmpO cmpN
  by_cases h : ms y.val < ms x.val
  · rw [if_pos h]; simp [h]
  · rw [if_neg h]
    split <;> simp [h]
theorem swo_O {n : Nat} (ms : Nat → Nat) : Go.Sort.SWO (Go.Proofs.ltOf (cmpO (n := n) ms)) := by
  rw [ltOf_O]
  refine ⟨fun x => by simp, fun x y z h k => ?_, fun x y z h k => ?_⟩
  · simp at h k ⊢; omega
  · simp at h k ⊢; omega

set_option maxHeartbeats 1000000 in
theorem ins_ord (n : Nat) (hn0 : 0 < n) (hn : n ≤ 20) (gr gc gb B cap : Nat) (gs : Nat → Nat) (Vs : Nat → Value) (ms : Nat → Nat) (w : World) (hr : VRow w gr 3 n (fun j => .int .i64 (j : Int))) (h : ShO w gc gb n B gs Vs ms) (h1 : gb ≠ gr) (h2 : gc ≠ gr) (h3 : gr < B) :
    Calls Tryz.prog 157 #[.slice (some ⟨gr, 0, none⟩) n cap, .int .i64 0, .int .i64 n, .func (.func 60) #[] #[.pointer (some ⟨gb, 0, none⟩)]] w
      fun e w' => e = .returned (.tuple #[]) ∧ ∃ ord : List Nat, ord.Perm (List.range n) ∧ VRow w' gr 3 n (fun j => .int .i64 ((ord.getD j 0 : Nat) : Int)) ∧ (∀ b, b < w.heap.size → b ≠ gr → w'.heap[b]? = w.heap[b]?) ∧ w.heap.size ≤ w'.heap.size ∧ w.grownBy w' (some gr) ∧ ord.Pairwise (RestN ms) := by
  haveI : Inhabited (Fin n) := ⟨⟨0, hn0⟩⟩
  have eg : ∀ args w, (callFunc 60 args).run Tryz.prog w = .ok (.enter 60 args) w := enters_of Tryz.func60 (by kernel_rfl) rfl
  have hd0 : (Array.ofFn (fun i : Fin n => i)).size = n := by simp
  have hcmp : Go.Proofs.CmpReads (α := Fin n) Tryz.prog 60 #[.pointer (some ⟨gb, 0, none⟩)] ordEnc (cmpO ms) gr 0 (Array.ofFn (fun i : Fin n => i)).size w := by
    intro m os dk hs x y
    rw [hd0] at hs
    obtain ⟨_, e2, e3⟩ := sortRow hr m os dk hs
    exact shClo gc gb n B gs Vs ms x.val y.val x.isLt y.isLt _ (h.blocks (by rw [e2]; omega) e3 h1 h2 h3)
  have hH : Go.Sort.Holds (α := Fin n) ordEnc w gr 0 (Array.ofFn (fun i : Fin n => i)) := by
    intro j hj
    rw [hd0] at hj
    rw [Nat.zero_add]
    refine ⟨(hr.cell j hj).trans ?_, hr.frozen j⟩
    rw [getElem!_pos _ j (by rw [hd0]; exact hj)]
    simp [ordEnc]
  have hcon := Go.Proofs.Any.insertionSortCmpFunc_one (α := Fin n) Tryz.g157 ordEnc ordOne (cmpO ms) 60 #[.pointer (some ⟨gb, 0, none⟩)] gr 0 cap 0 n (Array.ofFn (fun i : Fin n => i)) w eg hcmp hH (Nat.zero_le _) (by rw [hd0]; omega) (by rw [hd0]; omega)
  rw [hd0] at hcon
  change Calls Tryz.prog 157 _ _ _ at hcon
  rw [ins_same (Go.Proofs.ltOf (cmpO ms))] at hcon
  obtain ⟨hp, hsrt⟩ := Go.Sort.insertionSort_holds (lt := lexOf (Go.Proofs.ltOf (cmpO ms))) (swo_lex (swo_O ms)) (Array.ofFn (fun i : Fin n => i)) 0 n (Nat.zero_le _) (by rw [hd0]; omega)
  generalize Go.Sort.insertionSort (lexOf (Go.Proofs.ltOf (cmpO ms))) (Array.ofFn (fun i : Fin n => i)) 0 n = d at hcon hp hsrt
  refine Calls.mono hcon (fun e w' hw => ?_)
  obtain ⟨rfl, q, rfl⟩ := hw
  have hd : d.size = n := by rw [hp.1, hd0]
  have hw : (Go.Sort.putRow (α := Fin n) ordEnc w gr 0 d).drewN q = Go.Proofs.sortWorld (α := Fin n) ordEnc w gr 0 q d #[] := (Go.Proofs.sortWorld_none (α := Fin n) ordEnc w gr 0 q d).symm
  obtain ⟨e1, e2, e3⟩ := sortRow hr q #[] d hd
  have hperm : (d.toList.map (·.val)).Perm (List.range n) := by
    have h4 := hp.2.2
    have h5 : (d.extract 0 n).toList = d.toList := by
      rw [Array.toList_extract]
      simp only [List.extract_eq_take_drop, List.drop_zero, Nat.sub_zero]
      exact List.take_of_length_le (by rw [Array.length_toList, hd]; exact Nat.le_refl _)
    have h6 : ((Array.ofFn (fun i : Fin n => i)).extract 0 n).toList = List.ofFn (fun i : Fin n => i) := by
      rw [Array.toList_extract, Array.toList_ofFn]
      simp only [List.extract_eq_take_drop, List.drop_zero, Nat.sub_zero]
      exact List.take_of_length_le (by rw [List.length_ofFn]; exact Nat.le_refl _)
    rw [h5, h6] at h4
    have h7 := h4.map (fun i : Fin n => i.val)
    have h8 : (List.ofFn (fun i : Fin n => i)).map (fun i : Fin n => i.val) = List.range n := by
      apply List.ext_getElem
      · simp
      · intro i h1 h2; simp
    rw [h8] at h7
    exact h7
  refine ⟨rfl, d.toList.map (·.val), hperm, ?_, ?_, ?_, ?_, sorted_rest (fun x y => by rw [ltOf_O]) hd ((hperm.nodup_iff).2 List.nodup_range) hsrt⟩
  · rw [hw]
    refine e1.congr fun j hj => ?_
    rw [getElem!_pos d j (by rw [hd]; exact hj)]
    simp [ordEnc, hd, hj]
  · rw [hw]; exact e3
  · rw [hw, e2]; omega
  · rw [hw]
    exact ⟨rfl, rfl, rfl, by rw [e2]; omega, fun i hi hne => e3 i hi (fun e => hne (by rw [e]))⟩

/-- nothing to sort -/
theorem ins_sameO (v fv : Value) (a : Nat) (w : World) (ha : a ≤ 20) :
    Calls Tryz.prog 157 #[v, .int .i64 a, .int .i64 a, fv] w fun e w' => e = .returned (.tuple #[]) ∧ w' = w := by
  have h : ¬ ((a : Int) + 1 < (a : Int)) := by omega
  go_enter Tryz.func157, Tryz.ntmps157
  go_wp2_with fail
  refine wp_loop_rounds 1 ?_
  rw [rounds_succ]
  go_wp2_with fail
  go_end0
  exact ⟨rfl, rfl⟩

theorem stable_ord (n : Nat) (hn0 : 0 < n) (hn : n ≤ 20) (gr gc gb B cap : Nat) (gs : Nat → Nat) (Vs : Nat → Value) (ms : Nat → Nat) (w : World) (hr : VRow w gr 3 n (fun j => .int .i64 (j : Int))) (h : ShO w gc gb n B gs Vs ms) (h1 : gb ≠ gr) (h2 : gc ≠ gr) (h3 : gr < B) :
    Calls Tryz.prog 104 #[.slice (some ⟨gr, 0, none⟩) n cap, .int .i64 n, .func (.func 60) #[] #[.pointer (some ⟨gb, 0, none⟩)]] w
      fun e w' => e = .returned (.tuple #[]) ∧ ∃ ord : List Nat, ord.Perm (List.range n) ∧ VRow w' gr 3 n (fun j => .int .i64 ((ord.getD j 0 : Nat) : Int)) ∧ (∀ b, b < w.heap.size → b ≠ gr → w'.heap[b]? = w.heap[b]?) ∧ w.heap.size ≤ w'.heap.size ∧ w.grownBy w' (some gr) ∧ ord.Pairwise (RestN ms) := by
  have HI := hide (ins_ord n hn0 hn gr gc gb B cap gs Vs ms w hr h h1 h2 h3)
  clear hr h h1 h2 h3
  by_cases h20 : n = 20
  · subst h20
    go_enter Tryz.func104, Tryz.ntmps104
    go_wp2_with fail
    refine wp_loop_rounds 2 ?_
    rw [rounds_succ]
    go_wp2_with fail
    refine HI.out.mono ?_
    rintro e w1 ⟨rfl, hs⟩
    go_wp2_with fail
    rw [rounds_succ]
    go_wp2_with fail
    refine (ins_sameO _ _ 20 _ (by omega)).mono ?_
    rintro e w2 ⟨rfl, rfl⟩
    go_wp2_with fail
    refine wp_loop_rounds 1 ?_
    rw [rounds_succ]
    go_wp2_with fail
    go_end0
    exact ⟨rfl, hs⟩
  · have h1 : ¬ ((20 : Int) ≤ (n : Int)) := by omega
    have h2 : ¬ ((20 : Int) < (n : Int)) := by omega
    go_enter Tryz.func104, Tryz.ntmps104
    go_wp2_with fail
    refine wp_loop_rounds 1 ?_
    rw [rounds_succ]
    go_wp2_with fail
    refine HI.out.mono ?_
    rintro e w1 ⟨rfl, hs⟩
    go_wp2_with fail
    refine wp_loop_rounds 1 ?_
    rw [rounds_succ]
    go_wp2_with fail
    go_end0
    exact ⟨rfl, hs⟩
theorem sort_ord (n : Nat) (hn0 : 0 < n) (hn : n ≤ 20) (gr gc gb B cap : Nat) (gs : Nat → Nat) (Vs : Nat → Value) (ms : Nat → Nat) (w : World) (hr : VRow w gr 3 n (fun j => .int .i64 (j : Int))) (h : ShO w gc gb n B gs Vs ms) (h1 : gb ≠ gr) (h2 : gc ≠ gr) (h3 : gr < B) :
    Calls Tryz.prog 59 #[.slice (some ⟨gr, 0, none⟩) n cap, .func (.func 60) #[] #[.pointer (some ⟨gb, 0, none⟩)]] w
      fun e w' => e = .returned (.tuple #[]) ∧ ∃ ord : List Nat, ord.Perm (List.range n) ∧ VRow w' gr 3 n (fun j => .int .i64 ((ord.getD j 0 : Nat) : Int)) ∧ (∀ b, b < w.heap.size → b ≠ gr → w'.heap[b]? = w.heap[b]?) ∧ w.heap.size ≤ w'.heap.size ∧ w.grownBy w' (some gr) ∧ ord.Pairwise (RestN ms) := by
  have HI := hide (stable_ord n hn0 hn gr gc gb B cap gs Vs ms w hr h h1 h2 h3)
  clear hr h h1 h2 h3
  go_enter Tryz.func59, Tryz.ntmps59
  go_wp2_with fail
  refine HI.out.mono ?_
  rintro e w1 ⟨rfl, hs⟩
  go_wp2_with fail
  go_end0
  exact ⟨rfl, hs⟩
end Go.Proofs.YtbdbpcllndajgaaGreatDoor

namespace Go.Proofs.YtbdbpcllndajgaaGreatDoor
open Go Go.RowKit
set_option linter.unusedVariables false

theorem int_infoS : (Tryz.prog.info? 3).map (fun i => (i.zero, i.size, i.bytes)) = some (some (.int .i64 0), 1, 8) := by kernel_rfl
theorem ptr_infoS : (Tryz.prog.info? 93).map (fun i => (i.zero, i.size, i.bytes)) = some (some (.pointer none), 1, 8) := by kernel_rfl
theorem mk_intsS (n : Nat) (hn : n ≤ 1000) (w : World) :
    (Instr.makeSlice 41 (.int .i64 (n : Int)) (.int .i64 (n : Int))).run Tryz.prog w = .ok (.slice (some ⟨w.heap.size, 0, none⟩) n n) (w.alloc (.cells (Array.replicate n (.int .i64 0)) 3)) := by
  obtain ⟨i0, hi0, hz0, hz1, hz2⟩ := info_parts int_infoS
  have hmk := run_mk 41 3 i0 (.int .i64 0) Tryz.underlying41 hi0 hz0 n (by rw [hz2]; omega) (by omega)
  simp only [hz1, Nat.mul_one, show (Value.int .i64 0).cells = #[.int .i64 0] from rfl, madeCells_one] at hmk
  exact hmk w
theorem mk_ptrsS (n : Nat) (hn : n ≤ 1000) (w : World) :
    (Instr.makeSlice 92 (.int .i64 (n : Int)) (.int .i64 (n : Int))).run Tryz.prog w = .ok (.slice (some ⟨w.heap.size, 0, none⟩) n n) (w.alloc (.cells (Array.replicate n (.pointer none)) 93)) := by
  obtain ⟨i0, hi0, hz0, hz1, hz2⟩ := info_parts ptr_infoS
  have hmk := run_mk 92 93 i0 (.pointer none) Tryz.underlying92 hi0 hz0 n (by rw [hz2]; omega) (by omega)
  simp only [hz1, Nat.mul_one, show (Value.pointer none).cells = #[.pointer none] from rfl, madeCells_one] at hmk
  exact hmk w
theorem mratioS_any (n : Int) (w : World) : Calls Tryz.prog 52 #[.int .i64 n] w fun e w' => e = .returned (.bool (ratB n)) ∧ w = w' := by
  unfold ratB inB
  by_cases h1 : 0 ≤ n
  · have h1d : decide (0 ≤ n) = true := decide_eq_true h1
    rw [h1d, Bool.true_and]
    go_enter Tryz.func52, Tryz.ntmps52
    go_wp2_with fail
    go_ret
    exact ⟨rfl, rfl⟩
  · have h1d : decide (0 ≤ n) = false := decide_eq_false h1
    rw [h1d, Bool.false_and]
    go_enter Tryz.func52, Tryz.ntmps52
    go_wp2_with fail
    go_ret
    exact ⟨rfl, rfl⟩
theorem sumTo_rat {ws : List Int} : ∀ k, k ≤ ws.length → (∀ (j : Nat) (h : j < ws.length), j < k → ratB ws[j] = true) → 0 ≤ sumTo ws k ∧ sumTo ws k ≤ k * 1000000000 := by
  intro k
  induction k with
  | zero => intro _ _; simp [sumTo]
  | succ k ih =>
    intro hk h
    obtain ⟨h1, h2⟩ := ih (by omega) (fun j hj hjk => h j hj (by omega))
    have h3 := h k (by omega) (by omega)
    unfold ratB inB at h3
    simp at h3
    rw [sumTo_succ ws k (by omega)]
    omega

/-- a number above 0 that is read: its word -/
theorem BigRd.word {w : World} {g yn yc : Nat} {y : Int} {YA : Option Addr} (h : BigRd w g y YA yn yc) (hy : 0 < y) : ∃ yb yo, YA = some ⟨yb, yo, none⟩ ∧ yn = 1 ∧ w.cell? ⟨yb, yo, none⟩ = some (.int .u64 (y.toNat : Int)) ∧ w.cell? ⟨g, 0, none⟩ = some (.bool false) := by
  have e : y.natAbs = y.toNat := by omega
  have hd : decide (y < 0) = false := decide_eq_false (by omega)
  have c0 := h.c0
  rw [hd] at c0
  rcases h.wds.cases with ⟨h0, _⟩ | ⟨_, h1, yb, yo, h2, h3⟩
  · omega
  · rw [e] at h3
    exact ⟨yb, yo, h2, h1, h3, c0⟩
def outF (qs : List Int) (i j : Nat) : Value := .int .i64 (if j < i then qs.getD j 0 else 0)
def cutF (gs : Nat → Nat) (i j : Nat) : Value := if j < i then .pointer (some ⟨gs j, 0, none⟩) else .pointer none
def ordF (i j : Nat) : Value := .int .i64 ((if j < i then j else 0 : Nat) : Int)
/-- what the loop over the weights keeps -/
structure ShL (w0 w : World) (go gc gb gr gl n B4 Bl : Nat) (T S : Int) (ws : List Int) (i : Nat) (lv : Int) (VL : Value) (gs : Nat → Nat) (Vs : Nat → Value) : Prop where
  out : VRow w go 3 n (outF (ws.map (shQ T S)) i)
  cut : VRow w gc 93 n (cutF gs i)
  ord : VRow w gr 3 n (ordF i)
  box : w.cell? ⟨gb, 0, none⟩ = some (.slice (some ⟨gc, 0, none⟩) n n)
  left : BigAt w B4 gl VL lv
  kl : Blk w gl
  cuts : Cuts w Bl VL i gs Vs (fun j => (shM T S (ws.getD j 0) : Int))
  below : Below w0.heap.size w0 w
  big : Bl ≤ w.heap.size
  low : go < gc ∧ gc < gb ∧ gb < gr ∧ gr < B4 ∧ B4 ≤ gl ∧ gl < Bl ∧ w0.heap.size ≤ go
section
variable {w0 w : World} {go gc gb gr gl n B4 Bl : Nat} {T S : Int} {ws : List Int} {i : Nat} {lv : Int} {VL : Value} {gs : Nat → Nat} {Vs : Nat → Value}
theorem ShL.turn (h : ShL w0 w go gc gb gr gl n B4 Bl T S ws i lv VL gs Vs) {W : World} {gq gm : Nat} {V R : Value} {x : Int} (hI : ShI W go gc gr gb n (outF (ws.map (shQ T S)) i) (cutF gs i) (ordF i) w.heap.size gq gm V R (shQ T S x) (shM T S x : Int)) (hb : Below w.heap.size w W)
    (hx : ws.getD i 0 = x) (hi : i < ws.length) (g2 : w.heap.size ≤ gm) :
    ShL w0 (((W.setCell ⟨go, i, none⟩ (.int .i64 (shQ T S x))).setCell ⟨gc, i, none⟩ (.pointer (some ⟨gm, 0, none⟩))).setCell ⟨gr, i, none⟩ (.int .i64 (i : Int))) go gc gb gr gl n B4 Bl T S ws (i + 1) lv VL (fun j => if j = i then gm else gs j) (fun j => if j = i then R else Vs j) ∧
      BigAt (((W.setCell ⟨go, i, none⟩ (.int .i64 (shQ T S x))).setCell ⟨gc, i, none⟩ (.pointer (some ⟨gm, 0, none⟩))).setCell ⟨gr, i, none⟩ (.int .i64 (i : Int))) w.heap.size gq V (shQ T S x) := by
  obtain ⟨l1, l2, l3, l4, l5, l6, l7⟩ := h.low
  have hsz := hb.size
  have hbig := h.big
  have r1 := only_setCell (only_refl W (some go)) i (.int .i64 (shQ T S x))
  have hO : VRow (W.setCell ⟨go, i, none⟩ (.int .i64 (shQ T S x))) go 3 n (outF (ws.map (shQ T S)) (i + 1)) := (hI.out.set_ i _).congr fun j hj => by
    by_cases e : j = i
    · subst e
      have : (ws.map (shQ T S)).getD j 0 = shQ T S x := by
        rw [← hx, List.getD_eq_getElem?_getD, List.getElem?_map, List.getElem?_eq_getElem hi, List.getD_eq_getElem?_getD, List.getElem?_eq_getElem hi]
        rfl
      rw [if_pos rfl, outF, if_pos (by omega), this]
    · rw [if_neg e, outF, outF]
      by_cases e2 : j < i
      · rw [if_pos e2, if_pos (by omega)]
      · rw [if_neg e2, if_neg (by omega)]
  have c1 := hI.cut.other (show gc ≠ go by omega) i (.int .i64 (shQ T S x))
  have o1 := hI.ord.other (show gr ≠ go by omega) i (.int .i64 (shQ T S x))
  have b1 : (W.setCell ⟨go, i, none⟩ (.int .i64 (shQ T S x))).cell? ⟨gb, 0, none⟩ = some (.slice (some ⟨gc, 0, none⟩) n n) := by
    refine (World.cell?_setCell_other _ _ _ _ ?_).trans hI.box
    intro e; injection e with e; omega
  have n1 : ∀ b, b ≠ go → (W.setCell ⟨go, i, none⟩ (.int .i64 (shQ T S x))).heap[b]? = W.heap[b]? := fun b hb => Below.heap_setCell _ ⟨go, i, none⟩ _ b hb
  have s1 : (W.setCell ⟨go, i, none⟩ (.int .i64 (shQ T S x))).heap.size = W.heap.size := by simp
  have bw1 := (bthen h.below (Nat.le_refl _) hb).setCell (show w0.heap.size ≤ (⟨go, i, none⟩ : Addr).block by show w0.heap.size ≤ go; omega) (.int .i64 (shQ T S x))
  have ct1 := (h.cuts.below hb).row r1 (show go < Bl by omega)
  generalize W.setCell ⟨go, i, none⟩ (.int .i64 (shQ T S x)) = W1 at hO c1 o1 b1 n1 s1 bw1 ct1 ⊢
  have r2 := only_setCell (only_refl W1 (some gc)) i (.pointer (some ⟨gm, 0, none⟩))
  have hO := hO.other (show go ≠ gc by omega) i (.pointer (some ⟨gm, 0, none⟩))
  have hC : VRow (W1.setCell ⟨gc, i, none⟩ (.pointer (some ⟨gm, 0, none⟩))) gc 93 n (cutF (fun j => if j = i then gm else gs j) (i + 1)) := (c1.set_ i _).congr fun j hj => by
    by_cases e : j = i
    · subst e
      rw [if_pos rfl, cutF, if_pos (by omega), if_pos rfl]
    · rw [if_neg e, cutF, cutF]
      by_cases e2 : j < i
      · rw [if_pos e2, if_pos (by omega), if_neg e]
      · rw [if_neg e2, if_neg (by omega)]
  have o1 := o1.other (show gr ≠ gc by omega) i (.pointer (some ⟨gm, 0, none⟩))
  have b1 : (W1.setCell ⟨gc, i, none⟩ (.pointer (some ⟨gm, 0, none⟩))).cell? ⟨gb, 0, none⟩ = some (.slice (some ⟨gc, 0, none⟩) n n) := by
    refine (World.cell?_setCell_other _ _ _ _ ?_).trans b1
    intro e; injection e with e; omega
  have n2 : ∀ b, b ≠ go → b ≠ gc → (W1.setCell ⟨gc, i, none⟩ (.pointer (some ⟨gm, 0, none⟩))).heap[b]? = W.heap[b]? := fun b h1 h2 => (Below.heap_setCell _ ⟨gc, i, none⟩ _ b h2).trans (n1 b h1)
  have s2 : (W1.setCell ⟨gc, i, none⟩ (.pointer (some ⟨gm, 0, none⟩))).heap.size = W.heap.size := by simp [s1]
  have bw2 := bw1.setCell (show w0.heap.size ≤ (⟨gc, i, none⟩ : Addr).block by show w0.heap.size ≤ gc; omega) (.pointer (some ⟨gm, 0, none⟩))
  have ct2 := ct1.row r2 (show gc < Bl by omega)
  generalize W1.setCell ⟨gc, i, none⟩ (.pointer (some ⟨gm, 0, none⟩)) = W2 at hO hC o1 b1 n2 s2 bw2 ct2 ⊢
  have r3 := only_setCell (only_refl W2 (some gr)) i (.int .i64 (i : Int))
  have hO := hO.other (show go ≠ gr by omega) i (.int .i64 (i : Int))
  have hC := hC.other (show gc ≠ gr by omega) i (.int .i64 (i : Int))
  have hR : VRow (W2.setCell ⟨gr, i, none⟩ (.int .i64 (i : Int))) gr 3 n (ordF (i + 1)) := (o1.set_ i _).congr fun j hj => by
    by_cases e : j = i
    · subst e
      rw [if_pos rfl, ordF, if_pos (by omega)]
    · rw [if_neg e, ordF, ordF]
      by_cases e2 : j < i
      · rw [if_pos e2, if_pos (by omega)]
      · rw [if_neg e2, if_neg (by omega)]
  have b1 : (W2.setCell ⟨gr, i, none⟩ (.int .i64 (i : Int))).cell? ⟨gb, 0, none⟩ = some (.slice (some ⟨gc, 0, none⟩) n n) := by
    refine (World.cell?_setCell_other _ _ _ _ ?_).trans b1
    intro e; injection e with e; omega
  have n3 : ∀ b, b ≠ go → b ≠ gc → b ≠ gr → (W2.setCell ⟨gr, i, none⟩ (.int .i64 (i : Int))).heap[b]? = W.heap[b]? := fun b h1 h2 h3 => (Below.heap_setCell _ ⟨gr, i, none⟩ _ b h3).trans (n2 b h1 h2)
  have s3 : (W2.setCell ⟨gr, i, none⟩ (.int .i64 (i : Int))).heap.size = W.heap.size := by simp [s2]
  have bw3 := bw2.setCell (show w0.heap.size ≤ (⟨gr, i, none⟩ : Addr).block by show w0.heap.size ≤ gr; omega) (.int .i64 (i : Int))
  have ct3 := ct2.row r3 (show gr < Bl by omega)
  generalize W2.setCell ⟨gr, i, none⟩ (.int .i64 (i : Int)) = W3 at hO hC hR b1 n3 s3 bw3 ct3 ⊢
  have keep : ∀ {B g : Nat} {V : Value} {y : Int}, BigAt W B g V y → gr < B → BigAt W3 B g V y := fun hk hB =>
    hk.blocks (n3 _ (by have := hk.gB; omega) (by have := hk.gB; omega) (by have := hk.gB; omega)) (fun b hb2 => by have := (hk.own_lt hb2).2; exact n3 b (by omega) (by omega) (by omega))
  have hlf := keep (h.left.below hb) (by omega)
  have hlo : ∀ b, VL.ownBlock = some b → b < w.heap.size := fun b hb2 => (h.left.own_lt hb2).1
  have hm3 := keep (hI.m) (by omega)
  refine ⟨⟨hO, hC, hR, b1, hlf, (h.kl.below hb).blocks (n3 _ (by omega) (by omega) (by omega)), ?_, bw3, by omega, h.low⟩, keep hI.q (by omega)⟩
  refine ct3.push (hm3.lowerK hbig) (hI.km.blocks (n3 _ (by omega) (by omega) (by omega))) (fun e => by have := hlo _ e; omega) (fun b hb2 hb3 => ?_) (by rw [hx]) (fun j hj => by have := (h.cuts.at_ j hj).1.lt; omega)
  have := hlo b hb2
  have := (hI.m.own_lt hb3).2
  omega
theorem ShL.sub (h : ShL w0 w go gc gb gr gl n B4 Bl T S ws i lv VL gs Vs) {W : World} {VL' : Value} {lv' : Int} (hL : BigAt W B4 gl VL' lv') (hb : Below B4 w W) (hf : ∀ b, b < w.heap.size → b ≠ gl → VL.ownBlock ≠ some b → W.heap[b]? = w.heap[b]?) (hv : VL'.ownBlock = VL.ownBlock ∨ ∃ k, VL'.ownBlock = some k ∧ w.heap.size ≤ k) (hk : Blk w gl → Blk W gl) :
    ShL w0 W go gc gb gr gl n B4 Bl T S ws i lv' VL' gs Vs := by
  obtain ⟨l1, l2, l3, l4, l5, l6, l7⟩ := h.low
  refine ⟨h.out.blocks (hb.block _ (by omega)), h.cut.blocks (hb.block _ (by omega)), h.ord.blocks (hb.block _ (by omega)), ?_, hL, hk h.kl, h.cuts.left l6 hf hv, h.below.trans (hb.mono (by omega)), Nat.le_trans h.big hb.size, h.low⟩
  · have : W.heap[gb]? = w.heap[gb]? := hb.block _ (by omega)
    have hc : W.cell? ⟨gb, 0, none⟩ = w.cell? ⟨gb, 0, none⟩ := by unfold World.cell?; simp only [this]
    exact hc.trans h.box
end
/-- what the loop over the places keeps -/
structure ShB (w0 w : World) (go gr gl n B4 : Nat) (qs : List Int) (ord : List Nat) (s lv : Int) (VL : Value) (j : Nat) : Prop where
  out : VRow w go 3 n (fun t => .int .i64 ((bump s qs (ord.take j)).getD t 0))
  ord : VRow w gr 3 n (fun t => .int .i64 ((ord.getD t 0 : Nat) : Int))
  left : BigAt w B4 gl VL lv
  below : Below w0.heap.size w0 w
theorem bump_bnd (s : Int) (hs : s.natAbs ≤ 1) : ∀ (l : List Nat) (o : List Int) (M : Nat), (∀ y ∈ o, y.natAbs ≤ M) → ∀ y ∈ bump s o l, y.natAbs ≤ M + l.length
  | [], o, M, h, y, hy => by simpa [bump] using h y hy
  | i :: r, o, M, h, y, hy => by
    have h2 := bump_bnd s hs r (o.set i (o.getD i 0 + s)) (M + 1) (set_all (fun y hy => by have := h y hy; omega) (by
      rw [List.getD_eq_getElem?_getD]
      cases hi : o[i]? with
      | none => simp; omega
      | some x => have := h x (List.mem_of_getElem? hi); simp; omega)) y hy
    rw [List.length_cons]
    omega
theorem getD_set (l : List Int) (p t : Nat) (x : Int) (hp : p < l.length) : (l.set p x).getD t 0 = if t = p then x else l.getD t 0 := by
  rw [List.getD_eq_getElem?_getD, List.getElem?_set, List.getD_eq_getElem?_getD]
  by_cases h : t = p
  · subst h; simp [hp]
  · rw [if_neg (fun e => h e.symm), if_neg h]
theorem shM_lt {T S x : Int} (hS : 0 < S) (hS1 : S ≤ 20000000000) : shM T S x < W64 := by
  unfold shM
  rw [Int.natAbs_tmod]
  have : (T * x).natAbs % S.natAbs < S.natAbs := Nat.mod_lt _ (by omega)
  unfold W64
  omega

/-- what comes of weights that are right -/
def Shared (T : Int) (ws out : List Int) : Prop :=
  ∃ ord : List Nat, ord.Perm (List.range ws.length) ∧ ord.Pairwise (RestN fun j => shM T (sumTo ws ws.length) (ws.getD j 0)) ∧ out = bump (T - (ws.map (shQ T (sumTo ws ws.length))).sum).sign (ws.map (shQ T (sumTo ws ws.length))) (ord.take (T - (ws.map (shQ T (sumTo ws ws.length))).sum).natAbs)

set_option maxHeartbeats 4000000 in
set_option maxRecDepth 100000 in
theorem shares_any (T : Int) (ws : List Int) (A : Option Addr) (n c : Nat) (w : World) (hT0 : -4000000000000000000 ≤ T) (hT1 : T ≤ 4000000000000000000) (hn20 : n ≤ 20) (ha : Rd w 1 intEnc2 A n ws) :
    Calls Tryz.prog 27 #[.int .i64 T, .slice A n c] w fun e w' => (shE ws = 0 → ∃ (v : Value) (out : List Int), e = .returned (.tuple #[v, .nilIface]) ∧ Shared T ws out ∧ Own w' w.heap.size 3 1 intEnc2 v out) ∧ (shE ws ≠ 0 → e = .returned (.tuple #[.slice none 0 0, errV (shE ws)])) ∧ Below w.heap.size w w' := by
  have hln : ws.length = n := ha.1
  have h40 : ¬ 40 < ws.length := by omega
  have h40' : ¬ (40 : Int) < (n : Int) := by omega
  have HN := hide hln
  clear hln
  go_enter Tryz.func27, Tryz.ntmps27
  go_wp2_with fail
  clear h40'
  go_loopw [6, 26] (fun sv iv wr => w = wr ∧ ∃ k : Nat, k ≤ n ∧ iv = .int .i64 k ∧ sv = .int .i64 (sumTo ws k) ∧ Hid (∀ (j : Nat) (h : j < ws.length), j < k → ratB ws[j] = true)) (fun _ iv _ => n - (intOf iv).toNat)
  case atStart => exact ⟨rfl, 0, by omega, rfl, rfl, fun j _ h => absurd h (by omega)⟩
  case round =>
    obtain ⟨rfl, k, hk, rfl, rfl, HRT⟩ := hrel
    by_cases hlt : k < n
    · have hkl : k < ws.length := by have := HN.out; omega
      obtain ⟨b, off, rfl, hcs⟩ := ha.2 (by omega)
      have q0 := hcs k 0 _ hkl rfl
      simp only [Nat.mul_one, Nat.add_zero] at q0
      clear hcs
      have k0 : (0 : Int) ≤ (k : Int) := by omega
      have k1 : (k : Int) < (n : Int) := by omega
      obtain ⟨s0, s1⟩ := sumTo_rat k (by omega) HRT.out
      have hsu := sumTo_succ ws k hkl
      obtain ⟨x, hx⟩ : ∃ x, x = ws[k] := ⟨_, rfl⟩
      rw [← hx] at q0 hsu
      have HX := hide hx
      clear hx
      go_wp2_with fail
      refine (mratioS_any x _).mono ?_
      rintro e w1 ⟨rfl, rfl⟩
      cases hr : ratB x with
      | true =>
        have hx01 : 0 ≤ x ∧ x ≤ 1000000000 := by unfold ratB inB at hr; simpa using hr
        have hw : wrap64 (sumTo ws k + x) = sumTo ws (k + 1) := by rw [hsu]; simp only [wrap64]; omega
        go_wp2_with fail
        go_roundw
        case rel =>
          refine ⟨by first | rfl | trivial, k + 1, by omega, by go_num, by first | rfl | exact congrArg _ hsu.symm | (rw [hw]) | (rw [hsu]), fun j h hj => ?_⟩
          by_cases e : j = k
          · subst e; rw [← HX.out]; exact hr
          · exact HRT.out j h (by omega)
        case measure => simp [intOf]; omega
      | false =>
        have hE : shE ws = 1 := shE_1 h40 (by
          rw [List.all_eq_false]
          exact ⟨x, by rw [HX.out]; exact List.getElem_mem hkl, by rw [hr]; decide⟩)
        have HE := hide hE
        clear hE
        go_wp2_with fail
        go_ret2
        exact ⟨fun h => absurd h (by rw [HE.out]; decide), fun _ => by rw [HE.out]; rfl, Below.refl _ _⟩
    · have hkn : n = k := by omega
      subst hkn
      have hall : ws.all ratB = true := by
        rw [List.all_eq_true]
        intro x hx
        obtain ⟨j, hj, rfl⟩ := List.getElem_of_mem hx
        exact HRT.out j hj (by have := HN.out; omega)
      obtain ⟨s0, s1⟩ := sumTo_rat ws.length (Nat.le_refl _) (fun j h hj => HRT.out j h (by have := HN.out; omega))
      have hSn : sumTo ws n = sumTo ws ws.length := by rw [HN.out]
      rw [hSn]
      clear hSn
      by_cases hz : sumTo ws ws.length = 0
      · have hE : shE ws = 6 := shE_6 h40 hall hz
        have HE := hide hE
        clear hE
        rw [hz]
        go_wp2_with fail
        go_ret2
        exact ⟨fun h => absurd h (by rw [HE.out]; decide), fun _ => by rw [HE.out]; rfl, Below.refl _ _⟩
      · have hE : shE ws = 0 := shE_0 h40 hall hz
        have HE := hide hE
        clear hE
        obtain ⟨S, hS⟩ : ∃ S, S = sumTo ws ws.length := ⟨_, rfl⟩
        rw [← hS] at s0 s1 hz ⊢
        have hS0 : 0 < S := by omega
        have hS1 : S ≤ 20000000000 := by have := HN.out; omega
        have HS := hide hS
        have HS0 := hide hS0
        have HS1 := hide hS1
        have HRAT : Hid (∀ (j : Nat) (h : j < ws.length), 0 ≤ ws[j] ∧ ws[j] ≤ 1000000000 ∧ ws[j] ≤ S) := by
          intro j h
          have h3 := HRT.out j h (by have := HN.out; omega)
          unfold ratB inB at h3
          simp at h3
          have h4 := (sum_nonneg ws fun x hx => by
            obtain ⟨i, hi, rfl⟩ := List.getElem_of_mem hx
            have h5 := HRT.out i hi (by have := HN.out; omega)
            unfold ratB inB at h5
            simp at h5
            exact h5.1).2 _ (List.getElem_mem h)
          rw [← sumTo_eq_sum, ← hS] at h4
          exact ⟨h3.1, h3.2, h4⟩
        have hnz : (S == 0) = false := by rw [beq_eq_false_iff_ne]; omega
        have hnz2 : ¬ S = 0 := hz
        clear hall HRT s0 s1 hz hS hS0 hS1 hlt hk
        have hmk := fun W => mk_intsS n (by omega) W
        have hmp := fun W => mk_ptrsS n (by omega) W
        go_wp2_with fail
        -- the rows lie; what is left is begun
        obtain ⟨w1, hw1⟩ : ∃ w1, w1 = w.alloc (.cells (Array.replicate n (.int .i64 0)) 3) := ⟨_, rfl⟩
        obtain ⟨w2, hw2⟩ : ∃ w2, w2 = w1.alloc (.cells (Array.replicate n (.pointer none)) 93) := ⟨_, rfl⟩
        obtain ⟨w3, hw3⟩ : ∃ w3, w3 = w2.alloc (.cells #[.slice (some ⟨w.heap.size + 1, 0, none⟩) n n] 92) := ⟨_, rfl⟩
        obtain ⟨w4, hw4⟩ : ∃ w4, w4 = w3.alloc (.cells (Array.replicate n (.int .i64 0)) 3) := ⟨_, rfl⟩
        have s1 : w1.heap.size = w.heap.size + 1 := by rw [hw1]; simp
        have s2 : w2.heap.size = w.heap.size + 2 := by rw [hw2]; simp [s1]
        have s3 : w3.heap.size = w.heap.size + 3 := by rw [hw3]; simp [s2]
        have s4 : w4.heap.size = w.heap.size + 4 := by rw [hw4]; simp [s3]
        have b1 : Below w.heap.size w w1 := by rw [hw1]; exact (Below.refl _ _).alloc (Nat.le_refl _) _
        have b12 : Below w1.heap.size w1 w2 := by rw [hw2]; exact (Below.refl _ _).alloc (Nat.le_refl _) _
        have b23 : Below w2.heap.size w2 w3 := by rw [hw3]; exact (Below.refl _ _).alloc (Nat.le_refl _) _
        have b34 : Below w3.heap.size w3 w4 := by rw [hw4]; exact (Below.refl _ _).alloc (Nat.le_refl _) _
        have r1 : VRow w1 w.heap.size 3 n (fun _ => .int .i64 0) := by rw [hw1]; exact VRow.made w _ n _
        have r2 : VRow w2 (w.heap.size + 1) 93 n (fun _ => .pointer none) := by rw [hw2, ← s1]; exact VRow.made w1 _ n _
        have r3 : w3.cell? ⟨w.heap.size + 2, 0, none⟩ = some (.slice (some ⟨w.heap.size + 1, 0, none⟩) n n) := by rw [hw3, ← s2]; simp
        have r4 : VRow w4 (w.heap.size + 3) 3 n (fun _ => .int .i64 0) := by rw [hw4, ← s3]; exact VRow.made w3 _ n _
        have r1 := ((r1.below b12).below b23).below b34
        have r2 := (r2.below b23).below b34
        have r3 := below_cell b34 (by omega) r3
        have b4 : Below w.heap.size w w4 := bthen (bthen (bthen b1 (by omega) b12) (by omega) b23) (by omega) b34
        rw [show w.heap.size + 1 + 1 = w.heap.size + 2 from rfl, show w.heap.size + 2 + 1 = w.heap.size + 3 from rfl]
        rw [← hw1, ← hw2, ← hw3, ← hw4]
        clear hw1 hw2 hw3 hw4 b1 b12 b23 b34 s1 s2 s3 hmk hmp
        obtain ⟨go, hgo⟩ : ∃ go, go = w.heap.size := ⟨_, rfl⟩
        obtain ⟨gc, hgc⟩ : ∃ gc, gc = w.heap.size + 1 := ⟨_, rfl⟩
        obtain ⟨gb, hgb⟩ : ∃ gb, gb = w.heap.size + 2 := ⟨_, rfl⟩
        obtain ⟨gr, hgr⟩ : ∃ gr, gr = w.heap.size + 3 := ⟨_, rfl⟩
        rw [← hgc, ← hgb, ← hgr]
        rw [← hgc] at r2 r3
        rw [← hgb] at r3
        rw [← hgr] at r4
        refine (big1_own T _ (by omega) (by omega)).mono ?_
        rintro e wl ⟨gl, VL, rfl, hL, kl, hbl⟩
        have hbl4 : Below w.heap.size w wl := bthen b4 (by omega) hbl
        have hgl : w4.heap.size ≤ gl := hL.gB
        have hgl2 : gl < wl.heap.size := hL.lt
        have hsl : w4.heap.size ≤ wl.heap.size := hbl.size
        have hL0 : ShL w wl go gc gb gr gl n w4.heap.size wl.heap.size T S ws 0 (T - sumTo (ws.map (shQ T S)) 0) VL (fun _ => 0) (fun _ => .slice none 0 0) :=
          ⟨(by rw [hgo]; exact r1.below hbl), r2.below hbl, r4.below hbl, below_cell hbl (by omega) r3, by simpa [sumTo] using hL, kl, Cuts.nil _ _ _ _ _ _, hbl4, Nat.le_refl _, ⟨by omega, by omega, by omega, by omega, hgl, hgl2, by omega⟩⟩
        have HLOW : Hid (go < gc ∧ gc < gb ∧ gb < gr ∧ gr < w4.heap.size ∧ w4.heap.size ≤ gl ∧ gl < wl.heap.size ∧ w.heap.size ≤ go) := hide ⟨by omega, by omega, by omega, by omega, hgl, hgl2, by omega⟩
        rw [← hgo]
        have HL0 := hide hL0
        clear r1 r2 r3 r4 b4 hL kl hbl hbl4 hgl hgl2 hsl hL0 hgo hgc hgb hgr s4
        generalize w4.heap.size = B4 at HL0 HLOW
        generalize wl.heap.size = Bl at HL0 HLOW
        clear r1 r2 r3
        clear w1 w2 w3 w4
        go_wp2_with fail
        go_loopw [54] (fun iv wr => ∃ (i : Nat) (VL : Value) (gs : Nat → Nat) (Vs : Nat → Value), i ≤ n ∧ iv = .int .i64 i ∧ Hid (ShL w wr go gc gb gr gl n B4 Bl T S ws i (T - sumTo (ws.map (shQ T S)) i) VL gs Vs)) (fun iv _ => n - (intOf iv).toNat)
        case atStart => exact ⟨0, _, _, _, by omega, rfl, HL0⟩
        case round =>
          clear HL0
          obtain ⟨i, VL, gs, Vs, hi, rfl, HL⟩ := hrel
          by_cases hlt : i < n
          · have hil : i < ws.length := by have := HN.out; omega
            obtain ⟨b, off, rfl, hcs⟩ := (Rd.below ha HL.out.below).2 (by omega)
            have q0 := hcs i 0 _ hil rfl
            simp only [Nat.mul_one, Nat.add_zero] at q0
            clear hcs
            have i0 : (0 : Int) ≤ (i : Int) := by omega
            have i1 : (i : Int) < (n : Int) := by omega
            obtain ⟨x0, x1, x2⟩ := HRAT.out i hil
            obtain ⟨x, hx⟩ : ∃ x, x = ws[i] := ⟨_, rfl⟩
            rw [← hx] at q0 x0 x1 x2
            have HX := hide hx
            have X0 := hide x0
            have X1 := hide x1
            have X2 := hide x2
            clear hx x0 x1 x2
            have HLW : Hid (go < wr.heap.size ∧ gc < wr.heap.size ∧ gb < wr.heap.size ∧ gr < wr.heap.size ∧ gl < wr.heap.size) := ⟨HL.out.out.lt, HL.out.cut.lt, World.block_lt_of_cell? _ _ HL.out.box, HL.out.ord.lt, HL.out.left.lt⟩
            go_wp2_with fail
            have hZ := BigAt.new wr
            have hbA : Below wr.heap.size wr (wr.alloc (.cells #[.bool false, .slice none 0 0] 98)) := (Below.refl _ _).alloc (Nat.le_refl _) _
            refine (big1_new T _ (by omega) (by omega)).mono ?_
            rintro e v2 ⟨gx, XA, xn, xc, rfl, hX, hgx, kx, hb2⟩
            have hZ := hZ.below hb2
            have hb2 := bthen hbA (Nat.le_refl _) hb2
            go_wp2_with fail
            refine (big1_new x _ (by have := X0.out; omega) (by have := X1.out; omega)).mono ?_
            rintro e v3 ⟨gy, YA, yn, yc, rfl, hY, hgy, ky, hb3⟩
            have hne : gx ≠ gy := by have := kx.lt; omega
            have hX := hX.belowK hb3
            have hZ := hZ.below hb3
            have kx := kx.below hb3
            have hb3 := bthen hb2 (Nat.le_refl _) hb3
            go_wp2_with fail
            refine (bigMul_any wr.heap.size wr.heap.size gx gy xn xc yn yc T x XA YA _ hb3.size hZ hX hY hne kx ky).mono ?_
            rintro e v4 ⟨rfl, V4, hP, hb4⟩
            have hb4 := hb3.trans hb4
            clear hX hZ hY kx ky hb3 hb2 hbA hgx hgy hne
            have hs4 := hb4.size
            go_wp2_with fail
            have hA4 : Below v4.heap.size v4 (v4.alloc (.cells #[.bool false, .slice none 0 0] 98)) := (Below.refl _ _).alloc (Nat.le_refl _) _
            have hQ := BigAt.new v4
            have kq := Blk.new v4 #[.bool false, .slice none 0 0] 98
            refine (big1_new S _ (by have := HS0.out; omega) (by have := HS1.out; omega)).mono ?_
            rintro e v5 ⟨gd, DA, dn, dc, rfl, hD, hgd, kd, hb5⟩
            have hP := (hP.below hA4).below hb5
            have hQ := hQ.below hb5
            have kq := kq.below hb5
            have hq5 := kq.lt
            have hgd : v4.heap.size ≠ gd := by simp at hgd; omega
            have hb5 := bthen (hb4.trans (hA4.mono hs4)) (Nat.le_refl _) hb5
            have hs5 := hb5.size
            go_wp2_with fail
            have hA5 : Below v5.heap.size v5 (v5.alloc (.cells #[.bool false, .slice none 0 0] 98)) := (Below.refl _ _).alloc (Nat.le_refl _) _
            have hM := (BigAt.new v5).lowerK hs5
            have km := Blk.new v5 #[.bool false, .slice none 0 0] 98
            have hP := hP.below hA5
            have hQ := (hQ.below hA5).lowerK hs4
            have kq := kq.below hA5
            have hD := hD.belowK hA5
            have hb6 := hb5.trans (hA5.mono hs5)
            have hs6 := hb6.size
            obtain ⟨db, dO, rfl, rfl, hd1, hd0⟩ := hD.word HS0.out
            have hqm : v4.heap.size ≠ v5.heap.size := by omega
            have hxl : (T * x).natAbs < W64 * W64 := by
              rw [Int.natAbs_mul]
              have t1 : T.natAbs ≤ 4000000000000000000 := by omega
              have t2 : x.natAbs ≤ 1000000000 := by have := X0.out; have := X1.out; omega
              have := Nat.mul_le_mul t1 t2
              unfold W64
              omega
            have hp1 : S.toNat = 1 → (T * x).natAbs < W64 := by
              intro h1
              rw [Int.natAbs_mul]
              have t1 : T.natAbs ≤ 4000000000000000000 := by omega
              have t2 : x.natAbs ≤ 1 := by have := X0.out; have := X2.out; omega
              have := Nat.mul_le_mul t1 t2
              unfold W64
              omega
            have hSn : (S.toNat : Int) = S := by have := HS0.out; omega
            have hSw : S.toNat < W64 := by have := HS1.out; unfold W64; omega
            refine (quoRem_any wr.heap.size wr.heap.size v4.heap.size wr.heap.size gd v5.heap.size S.toNat db dO dc (T * x) V4 _ hs6 hQ hM hqm hP hxl (by have := HS0.out; omega) hSw hp1 hd0 hD.c1 hd1 kq km).mono ?_
            rintro e v7 ⟨rfl, V, R, hQ7, hM7, n1, n2, n3, n4, hb7, kq7, km7⟩
            have hb7 := hb6.trans hb7
            rw [hSn] at hQ7 hM7
            clear hP hQ hM kq km hD hd1 hd0 hA4 hA5 hb4 hb5 hb6 kd hxl hp1 hSn hSw hgd
            have g1 : wr.heap.size ≤ v4.heap.size := hs4
            have g2 : wr.heap.size ≤ v5.heap.size := hs5
            have hL := HL.out
            have hI0 : ShI v7 go gc gr gb n (outF (ws.map (shQ T S)) i) (cutF gs i) (ordF i) wr.heap.size v4.heap.size v5.heap.size V R (shQ T S x) ((T * x).tmod S) :=
              ⟨hL.out.below hb7, hL.cut.below hb7, hL.ord.below hb7, below_cell hb7 (World.block_lt_of_cell? _ _ hL.box) hL.box, hQ7, hM7, kq7, km7⟩
            have hq64 : in64 (shQ T S x) = true := by
              have hb := shQ_bound (T := T) HS0.out X0.out X2.out
              exact in64_yes _ ⟨by omega, by omega⟩
            have hlw := HLW.out
            have hgm : ∀ q, q < wr.heap.size → q ≠ v5.heap.size := fun q hq => by omega
            obtain ⟨gq, hgq⟩ : ∃ gq, gq = v4.heap.size := ⟨_, rfl⟩
            obtain ⟨gm, hgm2⟩ : ∃ gm, gm = v5.heap.size := ⟨_, rfl⟩
            rw [← hgq] at hI0 g1 hqm n2 ⊢
            rw [← hgm2] at hI0 g2 hqm hgm n1 ⊢
            obtain ⟨FO, hFO⟩ : ∃ FO, FO = outF (ws.map (shQ T S)) i := ⟨_, rfl⟩
            obtain ⟨FC, hFC⟩ : ∃ FC, FC = cutF gs i := ⟨_, rfl⟩
            obtain ⟨FR, hFR⟩ : ∃ FR, FR = ordF i := ⟨_, rfl⟩
            rw [← hFO, ← hFC, ← hFR] at hI0
            obtain ⟨q, hq⟩ : ∃ q, q = shQ T S x := ⟨_, rfl⟩
            obtain ⟨M, hM⟩ : ∃ M, M = (T * x).tmod S := ⟨_, rfl⟩
            rw [← hq] at hI0 hq64
            rw [← hM] at hI0
            have HABS : Hid (∀ W, ShI W go gc gr gb n FO FC FR wr.heap.size gq gm V R q M ∧ Below wr.heap.size wr W → Calls Tryz.prog 57 #[.pointer (some ⟨gm, 0, none⟩), .pointer (some ⟨gm, 0, none⟩)] W fun e w' => e = .returned (.pointer (some ⟨gm, 0, none⟩)) ∧ ShI w' go gc gr gb n FO FC FR wr.heap.size gq gm V R q (M.natAbs : Int) ∧ Below wr.heap.size wr w') := by
              intro W h
              refine (bigAbs_self wr.heap.size gm R _ W h.1.m).mono ?_
              rintro e w' ⟨rfl, rfl⟩
              exact ⟨rfl, h.1.absd (hgm _ hlw.1) (hgm _ hlw.2.1) (hgm _ hlw.2.2.2.1) (hgm _ hlw.2.2.1) hqm n1, h.2.setCell g2 (p := ⟨gm, 0, none⟩) _⟩
            have H64 : Hid (∀ W x', ShI W go gc gr gb n FO FC FR wr.heap.size gq gm V R q x' ∧ Below wr.heap.size wr W → Calls Tryz.prog 56 #[.pointer (some ⟨gq, 0, none⟩)] W fun e w' => e = .returned (.int .i64 q) ∧ ShI w' go gc gr gb n FO FC FR wr.heap.size gq gm V R q x' ∧ Below wr.heap.size wr w') := by
              intro W x' h
              refine (int64_any h.1.q hq64).mono ?_
              rintro e w' ⟨rfl, k, rfl⟩
              exact ⟨rfl, h.1.drewN k, bdrewN h.2 k⟩
            have hJ : Hid (ShI v7.drew go gc gr gb n FO FC FR wr.heap.size gq gm V R q M ∧ Below wr.heap.size wr v7.drew) := ⟨hI0.drewN 1, bdrewN hb7 1⟩
            have HFO := hide hFO
            have HFC := hide hFC
            have HFR := hide hFR
            have HQE := hide hq
            have HME := hide hM
            have HG12 := hide (And.intro g1 g2)
            have HNN := hide (And.intro hqm (And.intro n1 (And.intro n2 (And.intro n3 n4))))
            have z0 := hJ.out.1.box
            have hc1 : ¬ gc = go := by have := HLOW.out; omega
            have hc2 : ¬ gr = go := by have := HLOW.out; omega
            have hc3 : ¬ gr = gc := by have := HLOW.out; omega
            have hc4 : ¬ gb = go := by have := HLOW.out; omega
            have hc5 : ¬ gb = gc := by have := HLOW.out; omega
            have hc6 : ¬ gb = gr := by have := HLOW.out; omega
            clear hI0 hq64 hgm hFO hFC hFR hq hM g1 g2 hqm n1 n2 n3 n4 hQ7 hM7 hb7 kq7 km7 hL hlw hgq hgm2 hs4 hs5 hs6 hD hq5
            clear hb7
            go_upto_region 22 with fail
            go_cut [] from 74 to 88 (fun wx => Hid (ShL w wx go gc gb gr gl n B4 Bl T S ws (i + 1) (T - sumTo (ws.map (shQ T S)) i) VL (fun j => if j = i then gm else gs j) (fun j => if j = i then R else Vs j) ∧ BigAt wx wr.heap.size gq V q))
            case first =>
              go_region_law (first
                | (go_simp; go_at_call 56; refine (H64.out _ _ hJ.out).mono ?_; rintro e va ⟨rfl, hJ⟩; have hJ := hide hJ; have z0 := hJ.out.1.box; have y1 := hJ.out.1.out.cell i hlt; have y2 := hJ.out.1.cut.cell i hlt; have y3 := hJ.out.1.ord.cell i hlt; have f1 := hJ.out.1.out.frozen i; have f2 := hJ.out.1.cut.frozen i; have f3 := hJ.out.1.ord.frozen i)
                | (go_simp; go_at_call 57; refine (HABS.out _ hJ.out).mono ?_; rintro e vb ⟨rfl, hJ⟩; have hJ := hide hJ; have z0 := hJ.out.1.box; have y1 := hJ.out.1.out.cell i hlt; have y2 := hJ.out.1.cut.cell i hlt; have y3 := hJ.out.1.ord.cell i hlt; have f1 := hJ.out.1.out.frozen i; have f2 := hJ.out.1.cut.frozen i; have f3 := hJ.out.1.ord.frozen i))
              all_goals
                have hI := hJ.out.1
                rw [HFO.out, HFC.out, HFR.out, HQE.out, show (M.natAbs : Int) = (shM T S x : Int) by rw [HME.out]; rfl] at hI
                obtain ⟨hT, hqT⟩ := HL.out.turn hI hJ.out.2 (by rw [List.getD_eq_getElem?_getD, List.getElem?_eq_getElem hil, HX.out]; rfl) hil HG12.out.2
                rw [← HQE.out] at hT hqT
                go_wp2_with fail
                go_meet
                exact hide ⟨hT, hqT⟩
            case rest =>
            rename World => W3
            have HT := hide hcut.out.1
            have HQT := hide hcut.out.2
            clear hcut z0
            have hI64 : Ints64 (ws.map (shQ T S)) := by
              intro y hy
              obtain ⟨z, hz, rfl⟩ := List.mem_map.1 hy
              obtain ⟨j, hj, rfl⟩ := List.getElem_of_mem hz
              obtain ⟨a1, a2, a3⟩ := HRAT.out j hj
              have := shQ_bound (T := T) HS0.out a1 a3
              omega
            have hlv := sumTo_bnd hI64 i (by rw [List.length_map]; omega)
            have hqb : q.natAbs ≤ 4000000000000000000 := by
              have := shQ_bound (T := T) HS0.out X0.out X2.out
              rw [HQE.out]
              omega
            have hvs : (T - sumTo (ws.map (shQ T S)) i).natAbs + q.natAbs < W64 * W64 := by
              have : i * 9223372036854775808 ≤ 20 * 9223372036854775808 := Nat.mul_le_mul_right _ (by omega)
              unfold W64
              omega
            have HVS := hide hvs
            have hqs : sumTo (ws.map (shQ T S)) (i + 1) = sumTo (ws.map (shQ T S)) i + q := by rw [sumTo_map_step T S ws i hil, HQE.out, HX.out]
            have HQS := hide hqs
            have HQB := hide hqb
            clear hI64 hlv hvs hqs hqb
            obtain ⟨QA, qn, qc, _, hqr⟩ := HQT.out.rd (by have := HQB.out; unfold W64; omega)
            have HSB := hide (bigSub_any B4 gl gq qn qc VL _ q QA W3 (by have := HT.out.low; have := HT.out.left.lt; omega) HT.out.left hqr HVS.out)
            clear hqr
            go_wp2_with fail
            refine HSB.out.mono ?_
            rintro e w8 ⟨rfl, VL', hL8, hb8, hf8, hv8, hk8⟩
            have HS8 := hide (HT.out.sub hL8 hb8 hf8 hv8 hk8)
            clear hL8 hb8 hf8 hv8 hk8
            go_wp2_with fail
            go_roundw
            case rel =>
              refine ⟨i + 1, VL', (fun j => if j = i then gm else gs j), (fun j => if j = i then R else Vs j), by omega, by go_num, ?_⟩
              rw [HQS.out, show T - (sumTo (ws.map (shQ T S)) i + q) = T - sumTo (ws.map (shQ T S)) i - q by omega]
              exact HS8
            case measure => simp [intOf]; omega
          · have hin : n = i := by omega
            subst hin
            have hL := HL.out
            have hn0 : 0 < n := by
              rcases Nat.eq_zero_or_pos n with h0 | h0
              · have h1 := HS.out
                have h2 := HS0.out
                have h3 := HN.out
                rw [h3, h0] at h1
                simp [sumTo] at h1
                omega
              · exact h0
            obtain ⟨p1, p2, p3, p4, p5, p6, p7⟩ := hL.low
            have hO : ShO wr gc gb n Bl gs Vs (fun j => shM T S (ws.getD j 0)) := ⟨hL.box, fun j hj => (hL.cut.cell j hj).trans (by rw [cutF, if_pos hj]), fun j hj => ⟨(hL.cuts.at_ j hj).1, (hL.cuts.at_ j hj).2.1⟩, fun j hj => shM_lt HS0.out HS1.out, fun j k hj hk e => by
              rcases Nat.lt_trichotomy j k with h | h | h
              · have := hL.cuts.inc j k h hk; omega
              · rw [h]
              · have := hL.cuts.inc k j h hj; omega⟩
            have hR : VRow wr gr 3 n (fun j => .int .i64 (j : Int)) := hL.ord.congr fun j hj => by rw [ordF, if_pos hj]
            have hSO := hide (sort_ord n hn0 hn20 gr gc gb Bl n gs Vs _ wr hR hO (by omega) (by omega) (by omega))
            have hlen : (ws.map (shQ T S)).length = n := by rw [List.length_map]; exact HN.out
            have hlv : (T - sumTo (ws.map (shQ T S)) n).natAbs < n := by
              have h1 := (sh_left_end (T := T) HS0.out (fun x hx => by
                obtain ⟨j, hj, rfl⟩ := List.getElem_of_mem hx
                exact (HRAT.out j hj).1) HS.out.symm).2.2
              rw [HN.out] at h1
              exact h1
            obtain ⟨lv, hlv2⟩ : ∃ lv, lv = T - sumTo (ws.map (shQ T S)) n := ⟨_, rfl⟩
            rw [← hlv2] at HL hlv
            have HLV := hide hlv
            have HLE := hide hlv2
            have HLEN := hide hlen
            have HN0 := hide hn0
            clear hL hO hR hlen hlv hlv2 hn0 p1 p2 p3 p4 p5 p6 p7
            go_wp2_with fail
            refine hSO.out.mono ?_
            rintro e wa ⟨rfl, ord, hperm, hrow, hoth, hsz, hgrw, hpw⟩
            have HPW := hide hpw
            clear hpw
            have hL := HL.out
            obtain ⟨p1, p2, p3, p4, p5, p6, p7⟩ := hL.low
            have ho1 := hL.out.blocks (hoth go hL.out.lt (by omega))
            have hl1 := hL.left.blocks (hoth gl hL.left.lt (by omega)) (fun b hb => hoth b (hL.left.own_lt hb).1 (by have := (hL.left.own_lt hb).2; omega))
            have kl1 := hL.kl.blocks (hoth gl hL.left.lt (by omega))
            have hb1 := hL.below.grown hgrw hL.below.size (fun k e => by injection e with e; omega)
            have HPM := hide hperm
            clear hL hSO hoth hsz hgrw hperm
            have hZ := BigAt.new wa
            have kz := Blk.new wa #[.bool false, .slice none 0 0] 98
            have hbz : Below wa.heap.size wa (wa.alloc (.cells #[.bool false, .slice none 0 0] 98)) := (Below.refl _ _).alloc (Nat.le_refl _) _
            have hgl2 := hl1.lt
            obtain ⟨LA, ln, lc, hVL, hlr⟩ := (hl1.below hbz).rd (by have := HLV.out; unfold W64; omega)
            have HAB := hide (bigAbs_new wa.heap.size wa.heap.size gl ln lc lv LA _ (by simp) hZ hlr (by omega) kz (kl1.below hbz))
            clear hZ kz hlr hVL
            go_wp2_with fail
            refine HAB.out.mono ?_
            rintro e wb ⟨rfl, VA, hA, hbA⟩
            have hbb := hbz.trans hbA
            have ho1 := ho1.below hbb
            have hrow := hrow.below hbb
            have hl1 := hl1.below hbb
            have hb1 := bthen hb1 (Nat.le_refl _) hbb
            have HO1 := hide ho1
            have HR1 := hide hrow
            have HL1 := hide hl1
            have HB1 := hide hb1
            have HA := hide hA
            clear ho1 hrow hl1 hb1 hA hbA hbb hbz HAB kl1 hgl2
            go_wp2_with fail
            refine (int64_any HA.out (in64_yes _ (by have := HLV.out; omega))).mono ?_
            rintro e wc ⟨rfl, k9, rfl⟩
            obtain ⟨K, hK⟩ : ∃ K, K = lv.natAbs := ⟨_, rfl⟩
            rw [← hK]
            have HK := hide hK
            have hKn : K < n := by rw [hK]; exact HLV.out
            have hK0 : (0 : Int) ≤ (K : Int) := by omega
            have hK1 : (K : Int) ≤ (n : Int) := by omega
            clear hK HA
            obtain ⟨qs, hqs⟩ : ∃ qs, qs = ws.map (shQ T S) := ⟨_, rfl⟩
            obtain ⟨s, hs⟩ : ∃ s, s = lv.sign := ⟨_, rfl⟩
            have hqb : ∀ y ∈ qs, y.natAbs ≤ 4000000000000000000 := by
              intro y hy
              rw [hqs] at hy
              obtain ⟨z, hz, rfl⟩ := List.mem_map.1 hy
              obtain ⟨j, hj, rfl⟩ := List.getElem_of_mem hz
              obtain ⟨a1, a2, a3⟩ := HRAT.out j hj
              have := shQ_bound (T := T) HS0.out a1 a3
              omega
            have hs1 : s.natAbs ≤ 1 := by rw [hs, Int.natAbs_sign]; split <;> omega
            have hql : qs.length = n := by rw [hqs]; exact HLEN.out
            have hol : ord.length = n := by rw [HPM.out.length_eq, List.length_range]
            have hop : ∀ (j : Nat) (h : j < ord.length), ord[j] < n := fun j h => List.mem_range.1 (HPM.out.mem_iff.1 (List.getElem_mem h))
            rw [← hqs] at HO1
            have hB0 : ShB w (wb.drewN k9) go gr gl n B4 qs ord s lv VL 0 :=
              ⟨HO1.out.congr fun t ht => by rw [outF, if_pos ht]; rfl, HR1.out, HL1.out.below (bdrewN (Below.refl _ _) k9), bdrewN HB1.out k9⟩
            have HQS := hide hqs
            have HSS := hide hs
            have HQB := hide hqb
            have HS1' := hide hs1
            have HQL := hide hql
            have HOL := hide hol
            have HOP := hide hop
            have HB0 := hide hB0
            clear hqs hs hqb hs1 hql hol hop hB0 HO1 HR1 HL1 HB1
            generalize wb.drewN k9 = wd at HB0 ⊢
            go_wp2_with fail
            go_loopw [104] (fun jv wq => ∃ j : Nat, j ≤ K ∧ jv = .int .i64 j ∧ Hid (ShB w wq go gr gl n B4 qs ord s lv VL j)) (fun jv _ => K - (intOf jv).toNat)
            case atStart => exact ⟨0, by omega, rfl, HB0⟩
            case round =>
              clear HB0
              obtain ⟨j, hj, rfl, HB⟩ := hrel
              by_cases hlt2 : j < K
              · have hjo : j < ord.length := by have := HOL.out; omega
                have hp := HOP.out j hjo
                have z0 := HB.out.ord.cell j (by omega)
                have hg : ord.getD j 0 = ord[j] := by rw [List.getD_eq_getElem?_getD, List.getElem?_eq_getElem hjo]; rfl
                simp only [hg] at z0
                obtain ⟨p, hpp⟩ : ∃ p, p = ord[j] := ⟨_, rfl⟩
                rw [← hpp] at z0 hp
                have y0 := HB.out.out.cell p hp
                have f0 := HB.out.out.frozen p
                obtain ⟨bl, hbl⟩ : ∃ bl, bl = bump s qs (ord.take j) := ⟨_, rfl⟩
                have hbll : bl.length = n := by rw [hbl, bump_len]; exact HQL.out
                simp only [← hbl] at y0
                obtain ⟨v, hv⟩ : ∃ v, v = bl.getD p 0 := ⟨_, rfl⟩
                have hvb : v.natAbs ≤ 4000000000000000000 + 20 := by
                  have h1 := bump_bnd s HS1'.out (ord.take j) qs 4000000000000000000 HQB.out v (by
                    rw [← hbl, hv, List.getD_eq_getElem?_getD, List.getElem?_eq_getElem (by omega)]
                    exact List.getElem_mem _)
                  have h2 := List.length_take_le j ord
                  omega
                rw [← hv] at y0
                have hs2 := HS1'.out
                have hw : wrap64 (v + s) = v + s := by simp only [wrap64]; omega
                have HSG : Hid (Calls Tryz.prog 62 #[.pointer (some ⟨gl, 0, none⟩)] wr.drew fun e w' => e = .returned (.int .i64 s) ∧ w' = wr.drew) := by
                  have h1 := bigSign_any B4 gl VL lv wr.drew (HB.out.left.below (bdrewN (Below.refl _ _) 1))
                  rw [← HSS.out] at h1
                  exact h1
                have p0 : (0 : Int) ≤ (p : Int) := by omega
                have p1 : (p : Int) < (n : Int) := by omega
                have j0 : (0 : Int) ≤ (j : Int) := by omega
                have j1 : (j : Int) < (K : Int) := by omega
                have HPP := hide hpp
                have HBL := hide hbl
                have HVV := hide hv
                have HBLL := hide hbll
                clear hpp hbl hv hvb hs2 hbll hg hp
                go_wp2_with fail
                go_region_law (go_simp; go_at_call 62; refine HSG.out.mono ?_; rintro e wx ⟨rfl, rfl⟩)
                all_goals
                  go_wp2_with fail
                all_goals
                  go_roundw
                  case rel =>
                    rw [hw]
                    refine ⟨j + 1, by omega, by go_num, hide ⟨?_, ?_, ?_, ?_⟩⟩
                    · refine ((HB.out.out.set_ p (.int .i64 (v + s))).congr fun t ht => ?_).drewN 1
                      rw [bump_take s ord qs j hjo, ← HPP.out, ← HBL.out, ← HVV.out, getD_set bl p t (v + s) (by rw [HBLL.out]; omega)]
                      by_cases e : t = p
                      · rw [if_pos e, if_pos e]
                      · rw [if_neg e, if_neg e, HBL.out]
                    · exact (HB.out.ord.other (by have := HLOW.out; omega) p _).drewN 1
                    · have h1 := HB.out.left
                      exact (h1.grownK (only_setCell (only_refl _ (some go)) p _) (by have := HLOW.out; omega) (fun e => by have := (h1.own_lt e).2; have := HLOW.out; omega)).below (bdrewN (Below.refl _ _) 1)
                    · exact bdrewN (HB.out.below.setCell (show w.heap.size ≤ (⟨go, p, none⟩ : Addr).block by have := HLOW.out; show w.heap.size ≤ go; omega) _) 1
                  case measure => simp [intOf]; omega
              · have hjK : K = j := by omega
                subst hjK
                go_wp2_with fail
                go_ret2
                have hown : Own wr w.heap.size 3 1 intEnc2 (.slice (some ⟨go, 0, none⟩) n n) (bump s qs (ord.take K)) :=
                  HB.out.out.ownInts (by rw [bump_len]; exact HQL.out) (fun t ht => rfl) (by have := HLOW.out; omega) (by unfold maxLen; omega)
                have hsum : qs.sum = sumTo qs n := by rw [← HQL.out, sumTo_eq_sum]
                have hsh : Shared T ws (bump s qs (ord.take K)) := by
                  refine ⟨ord, by rw [HN.out]; exact HPM.out, by rw [← HS.out]; exact HPW.out, ?_⟩
                  rw [← HS.out, ← HQS.out, hsum, HQS.out, ← HLE.out, ← HSS.out, ← HK.out]
                exact ⟨fun _ => ⟨_, _, rfl, hsh, hown⟩, fun h => absurd HE.out h, HB.out.below⟩
end Go.Proofs.YtbdbpcllndajgaaGreatDoor
