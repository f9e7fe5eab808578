/- A loop over a function that keeps what is left in a box of its own: the law of such a loop. -/
import Derived.RangeFuncNested
import Derived.RangeFuncBound
import Derived.RangeFuncCalls
import Derived.RangeFuncLeaves
import Derived.RangeFuncBox
import Derived.Shelf.Abstract
import Derived.Shelf.RegionOpen
import Derived.WalkKit
import Derived.OwnWalkIn
import Derived.TacticsInMore
import Derived.LoopNIn
import Derived.LoopIn
import Derived.Test.YthmjkhlndphldaaDoorPrsP
namespace Go.Proofs.YthmjkhlndphldaaDoor
open Go Go.RowKit Go.Shelf
set_option linter.unusedVariables false

section
variable {F : Fence} {n : Nat} {P : Program}
/-- what is said abides new blocks, and the turn of block b, or of one that is no cells and lies at or beyond B -/
def OwnAt (B b : Nat) (I : World → Prop) : Prop :=
  ∀ W W' row, I W → W.grownBy W' row → (∀ r, row = some r → r = b ∨ (B ≤ r ∧ ∃ o : Obj, W.heap[r]? = some o ∧ o.isCells = false)) → I W'
theorem OwnAt.put {B b : Nat} {I : World → Prop} (h : OwnAt B b I) {W : World} {l : Nat} {o : Obj} (o' : Obj) (hi : I W) (hB : B ≤ l) (hl : W.heap[l]? = some o) (ho : o.isCells = false) : I (W.putObj l o') :=
  h W _ (some l) hi (grownBy_putObj' W l o') (fun r e => by cases e; exact .inr ⟨hB, o, hl, ho⟩)
theorem OwnAt.alloc {B b : Nat} {I : World → Prop} (h : OwnAt B b I) {W : World} (o : Obj) (hi : I W) : I (W.alloc o) :=
  h W _ none hi (World.grownBy_alloc W o none) (fun r e => by cases e)

/-- an iterator whose state s lies in block b (as box s): while live s it hands out enc s and goes on to next s -/
def Turns {σ : Type} (F : Fence) (n : Nat) (P : Program) (gf : Nat) (lb : Array Value) (b : Nat) (enc : σ → Array Value) (next : σ → σ) (live good : σ → Prop) (box : σ → Obj) : Prop :=
  ∀ (l : Nat) (J : σ → World → Prop) (Jx : World → Prop) (W : World) (s0 : σ),
    (∀ s A B row, J s A → A.grownBy B row → (∀ r, row = some r → r = b) → J s B) →
    (∀ s W1, J s W1 → live s → YieldAt F (n - 1) P l (enc s) W1 fun e W' => (e = .returned (.bool true) ∧ J (next s) W' ∧ W'.heap[b]? = W1.heap[b]?) ∨ (e = .returned (.bool false) ∧ Jx W')) →
    good s0 → W.heap[b]? = some (box s0) → J s0 W →
    CallsIn F n P gf (#[.func (.yield l) #[] #[]] ++ lb) W fun e W' => (∃ v, e = .returned v) ∧ ((∃ s, ¬ live s ∧ J s W') ∨ Jx W')

/-- how a round's body is left: on to the next, the box as it was; or by a return -/
def atPost (B b : Nat) (I Ix : World → Prop) (W : World) : Exit → Act → World → Prop
  | .normal, _, W' => KeepsFrom B W W' ∧ W'.heap[b]? = W.heap[b]? ∧ I W'
  | .ret, _, W' => KeepsFrom B W W' ∧ Ix W'
  | .exit _, _, _ => False
  | .goto _, _, _ => False
  | .panic _, _, _ => False
  | .outgrown, _, _ => False

theorem rangeFunc_at {σ : Type} {g : Operand} {ps : Array Tmp} {assign body : Code} {Q : Exit → Act → World → Prop} {a : Act} {w : World}
    (hro : F.round = none) (h1 : 1 ≤ n) {gf : Nat} {lb : Array Value} (hg : a.eval g = .func (.func gf) #[] lb) (hFg : F.fn gf) (eg : ∀ args w, (callFunc gf args).run P w = .ok (.enter gf args) w)
    {b : Nat} {enc : σ → Array Value} {next : σ → σ} {live good : σ → Prop} {box : σ → Obj} (hseq : Turns F (n - 1) P gf lb b enc next live good box) (hb : b < w.heap.size) (s0 : σ) (hgood : good s0) (hbox : w.heap[b]? = some (box s0))
    (hps : ∀ s, (enc s).size = ps.size) (I : σ → World → Prop) (Ix : World → Prop) (hI : ∀ s, OwnAt w.heap.size b (I s)) (hIx : OwnAt w.heap.size b Ix) (h0 : I s0 w) (a₁ : σ → Act)
    (hassign : ∀ (l : Nat) (s : σ) (W : World) (K : Act → World → Prop), K (a₁ s) W →
      assign.wpIn (F.inRound l) (n - 1 - 1) P (Exit.then K (fun _ _ _ => False)) { tmps := (ps.zip (enc s)).foldl (fun t (p, v) => t.setIfInBounds p v) a.tmps, defers := [] } W)
    (hbody : ∀ (l : Nat) (s : σ) (W : World), I s W → live s → body.wpIn (F.inRound l) (n - 1 - 1) P (atPost w.heap.size b (I (next s)) Ix W) (a₁ s) W)
    (hdone : ∀ (D : Nat) (s : σ) (W : World), w.heap.size ≤ D → ¬ live s → I s W → W.heap[D]? = some (.deferred (some [])) → Q .normal { a with defers := { target := .collected D, args := #[] } :: a.defers } W)
    (hstop : ∀ (D : Nat) (W : World), w.heap.size ≤ D → Ix W → W.heap[D]? = some (.deferred (some [])) → Code.ret.wpIn F n P Q { a with defers := { target := .collected D, args := #[] } :: a.defers } W) :
    (Code.rangeFunc g ps assign body).wpIn F n P Q a w := by
  obtain ⟨B, hB⟩ : ∃ B, B = w.heap.size := ⟨_, rfl⟩
  rw [← hB] at hb hI hIx hbody hdone hstop
  refine wpIn_rangeFunc fun fn hfn => ?_
  rw [hro]
  -- the loop's record, in its states
  obtain ⟨rc, hrc⟩ : ∃ rc : LoopState → Option Code → Loop, rc = fun st pe => { state := st, pending := pe, fn, tmps := a.tmps, params := ps, assign, body, defers := B } := ⟨_, rfl⟩
  -- the two blocks of the loop: B for the deferred calls, B + 1 for the record
  obtain ⟨W1, hW1⟩ : ∃ W1, W1 = (w.alloc (.deferred (some []))).alloc (.loop (rc .ready none)) := ⟨_, rfl⟩
  have hg01 : w.grownBy W1 none := by
    rw [hW1]; exact (World.grownBy_alloc w _ none).trans (World.grownBy_alloc _ _ none)
  have q1 : W1.heap[B]? = some (.deferred (some [])) := by
    rw [hW1, hB]; exact (Below.heap_alloc _ _ _ (by simp)).trans (World.alloc_heap_new w _)
  have q2 : W1.heap[B + 1]? = some (.loop (rc .ready none)) := by
    have := World.alloc_heap_new (w.alloc (.deferred (some []))) (.loop (rc .ready none))
    rw [World.size_alloc] at this
    rw [hW1, hB]; exact this
  have qb : W1.heap[b]? = some (box s0) := (hg01.block b (hB ▸ hb) (by simp)).trans hbox
  have hI1 : I s0 W1 := hI s0 w W1 none h0 hg01 (fun r e => by cases e)
  refine ⟨B + 1, [{ target := .collected B, args := #[] }], W1, { target := .fn (.func gf) lb, args := #[.func (.yield (B + 1)) #[] #[]] }, W1, gf, #[.func (.yield (B + 1)) #[] #[]] ++ lb, W1, ?_, ?_, ?_, ?_, fun _ => h1, ?_⟩
  · have := run_enterLoop_outer (P := P) (w := w) fn a.tmps ps assign body
    rw [this, hW1, hrc, hB]
  · simp only [resolve, hg]
    simp [go_sem]
  · intro f' hf'; simp [Target.leads] at hf'; subst hf'; exact hFg
  · simp [invoke, go_sem, eg]
  -- what stands between two rounds
  have bne : b ≠ B ∧ b ≠ B + 1 := ⟨by omega, by omega⟩
  refine (hseq (B + 1) (fun s W => I s W ∧ W.heap[B + 1]? = some (.loop (rc .ready none)) ∧ W.heap[B]? = some (.deferred (some [])))
    (fun W => Ix W ∧ W.heap[B + 1]? = some (.loop (rc .done (some .ret))) ∧ W.heap[B]? = some (.deferred (some []))) W1 s0 ?_ ?_ hgood qb ⟨hI1, q2, q1⟩).mono ?_
  · rintro s X Y row ⟨k1, k2, k3⟩ hg' hr
    exact ⟨hI s X Y row k1 hg' (fun r e => .inl (hr r e)), (hg'.block _ (Array.getElem?_eq_some_iff.1 k2).1 (fun e => bne.2 (hr _ e.symm).symm)).trans k2,
      (hg'.block _ (Array.getElem?_eq_some_iff.1 k3).1 (fun e => bne.1 (hr _ e.symm).symm)).trans k3⟩
  · rintro s X ⟨k1, k2, k3⟩ hlive
    have hlt : B + 1 < X.heap.size := (Array.getElem?_eq_some_iff.1 k2).1
    have hy := run_yield (P := P) (args := enc s) k2 (by rw [hrc]; exact hps s)
    rw [hrc] at hy
    refine ⟨fn, _, assign, body, hy, roundIn_of_wpIn hfn (hassign _ s X _ ⟨_, run_beginRound k2 (by rw [hrc]), ?_⟩)⟩
    -- the round's own world: the record is busy
    obtain ⟨X2, hX2⟩ : ∃ X2, X2 = X.putObj (B + 1) (.loop { rc .ready none with state := .busy }) := ⟨_, rfl⟩
    rw [← hX2]
    have m1 : X2.heap[B + 1]? = some (.loop { rc .ready none with state := .busy }) := by rw [hX2]; exact World.putObj_heap_same hlt
    have m2 : X2.heap[B]? = some (.deferred (some [])) := by rw [hX2]; exact (World.putObj_heap_other (by omega)).trans k3
    have m3 : X2.heap[b]? = X.heap[b]? := by rw [hX2]; exact World.putObj_heap_other bne.2
    have hI2 : I s X2 := by rw [hX2]; exact (hI s).put _ k1 (by omega) k2 rfl
    have fin : ∀ (jump : Option Code) (X3 : World), KeepsFrom B X2 X3 → (Instr.endRound (B + 1) jump).run P X3 = .ok (.bool jump.isNone) (X3.putObj (B + 1) (.loop (rc (if jump.isNone then .ready else .done) jump))) ∧
        X3.heap[B + 1]? = some (.loop { rc .ready none with state := .busy }) ∧ (X3.putObj (B + 1) (.loop (rc (if jump.isNone then .ready else .done) jump))).heap[B + 1]? = some (.loop (rc (if jump.isNone then .ready else .done) jump)) ∧
        (X3.putObj (B + 1) (.loop (rc (if jump.isNone then .ready else .done) jump))).heap[B]? = some (.deferred (some [])) := by
      intro jump X3 hk
      have n1 := hk.same _ _ (by omega) m1 rfl
      have e1 := run_endRound (P := P) jump n1
      rw [hrc] at e1
      refine ⟨by rw [e1, hrc], n1, World.putObj_heap_same (Array.getElem?_eq_some_iff.1 n1).1, (World.putObj_heap_other (by omega)).trans (hk.same _ _ (Nat.le_refl _) m2 rfl)⟩
    refine wpIn_mono (hbody _ s X2 hI2 hlive) ?_
    rintro e a3 X3 hp
    cases e with
    | normal =>
      obtain ⟨hk, hbx, hi⟩ := hp
      obtain ⟨e1, n1, n2, n3⟩ := fin none X3 hk
      exact ⟨_, _, e1, .inl ⟨rfl, ⟨(hI _).put _ hi (by omega) n1 rfl, n2, n3⟩, (World.putObj_heap_other bne.2).trans (hbx.trans m3)⟩⟩
    | ret =>
      obtain ⟨hk, hi⟩ := hp
      obtain ⟨e1, n1, n2, n3⟩ := fin (some .ret) X3 hk
      exact ⟨_, _, e1, .inr ⟨rfl, hIx.put _ hi (by omega) n1 rfl, n2, n3⟩⟩
    | exit id => exact hp.elim
    | goto t => exact hp.elim
    | panic ch => exact hp.elim
    | outgrown => exact hp.elim
  · rintro e X ⟨⟨v, rfl⟩, ⟨s, hs, k1, k2, k3⟩ | ⟨k1, k2, k3⟩⟩
    · have e1 := run_endLoop (P := P) k2 (by rw [hrc]; simp)
      rw [hrc] at e1
      exact ⟨none, _, e1, hdone B s _ (Nat.le_refl _) hs ((hI s).put _ k1 (by omega) k2 rfl) ((World.putObj_heap_other (by omega)).trans k3)⟩
    · have e1 := run_endLoop (P := P) k2 (by rw [hrc]; simp)
      rw [hrc] at e1
      exact ⟨some .ret, _, e1, hstop B _ (Nat.le_refl _) (hIx.put _ k1 (by omega) k2 rfl) ((World.putObj_heap_other (by omega)).trans k3)⟩

/-- 'append' of records, in a round -/
theorem wpListIn_push {α : Type} {enc : α → List Value} (w : World) {ops : Array Oper} {rest : List Oper} {o : Oper} {a : Act} {Q : Exit → Act → World → Prop} (hgd : o.guard = none) (s x : Operand) (t : TypeId)
    (ho : o.op = .call { callee := .builtin .append, args := #[s, x], argTypes := #[t, t] })
    (B : Nat) (e : TypeId) (i : TypeInfo) (z : Value) (sz bytes : Nat) (ht : P.underlying t = some (.slice e)) (hi : P.info? e = some i) (hz : i.zero = some z)
    (hsize : i.size = sz) (hby : i.bytes = bytes) (hzs : z.cells.size = sz) (hsz : 0 < sz) (he : Enc sz enc) (v : Value) (l : List α) (hs : a.eval s = v) (hown : Own w B e sz enc v l)
    (A : Option Addr) (m c : Nat) (ys : List α) (hx : a.eval x = .slice A m c) (hr : Rd w sz enc A m ys) (hA : A = none → c = 0)
    (h63 : l.length + m ≤ maxLen) (hbytes : (l.length + m) * bytes ≤ 140737488355328) (hbase : B ≤ w.heap.size)
    (h : ∀ v' w', Own w' B e sz enc v' (l ++ ys) → w.grownBy w' v.ownBlock → (v'.ownBlock = v.ownBlock ∨ v'.ownBlock = some w.heap.size) → wpListIn F n P ops Q rest (a.put o.dst v') w') : wpListIn F n P ops Q (o :: rest) a w := by
  refine wpListIn_plain hgd fun K hK' => ?_
  obtain ⟨v', w', hrun, h2, h3, h4⟩ := run_push (P := P) w B t o.type e i z sz bytes ht hi hz hsize hby hzs hsz he v l hown A m c ys hr hA h63 hbytes hbase
  unfold Oper.wpIn
  refine ⟨?_, ?_⟩
  · simp [Oper.about, ho, resolve, Target.leads, Sem.run_pure]
  · rw [Oper.semAt_plain F _ _ (by rw [ho]; intro c hc'; cases hc')]
    simp [execOp, ho, resolve, invoke, builtin, hs, hx, hrun, Result.andThen]
    exact hK' _ _ (h v' w' h2 h3 h4)
end
end Go.Proofs.YthmjkhlndphldaaDoor
