/- Entries that are made a part at a time: how they lie; daylaw3.zero of entries of two lines: true. -/
import Derived.Test.YtbdbpcllndajgaaGreatDoorOpenY
import Derived.Test.YtbdbpcllndajgaaGreatDoorRefX
namespace Go.Proofs.YtbdbpcllndajgaaGreatDoor
open Go Go.RowKit
set_option linter.unusedVariables false

def Ent.core (e : Ent) : ByteArray × Int × Int × List Line := (e.ref, e.ent, e.per, e.lines)
abbrev Core := ByteArray × Int × Int × List Line
/-- an entry of two lines of as much, one on each side -/
def TwoLine (x : Core) : Prop := ∃ a d cur n, x.2.2.2 = [⟨a, cur, -n⟩, ⟨d, cur, n⟩] ∧ -1000000000000000 ≤ n ∧ n ≤ 1000000000000000
theorem canon_even (a d cur : ByteArray) (n : Int) : ∀ y, y ∈ canon (([⟨a, cur, -n⟩, ⟨d, cur, n⟩] : List Line).map blank) → y.amt = 0 := by
  intro y hy
  have e : canon (([⟨a, cur, -n⟩, ⟨d, cur, n⟩] : List Line).map blank) = [⟨⟨#[]⟩, cur, -n + n⟩] := by
    show ins (ins [] (blank ⟨a, cur, -n⟩)) (blank ⟨d, cur, n⟩) = _
    rw [ins, ins, if_neg (by rw [show (blank ⟨a, cur, -n⟩).key = (blank ⟨d, cur, n⟩).key from rfl, Key.irrefl]; decide), if_pos (show (blank ⟨a, cur, -n⟩).key = (blank ⟨d, cur, n⟩).key from rfl)]
    rfl
  rw [e] at hy
  obtain rfl := List.mem_singleton.1 hy
  show -n + n = 0
  omega
theorem Rd.grownX {α : Type} {enc : α → List Value} {w w' : World} {sz n : Nat} {A : Option Addr} {l : List α} {row : Option Nat} (h : Rd w sz enc A n l) (hg : w.grownBy w' row) (hne : ∀ b off s, A = some ⟨b, off, s⟩ → some b ≠ row) : Rd w' sz enc A n l := by
  refine ⟨h.1, fun hn => ?_⟩
  obtain ⟨b, off, e, hc⟩ := h.2 hn
  exact ⟨b, off, e, fun i j u hi hu => hg.cell (hc i j u hi hu) (hne b off _ e)⟩
/-- entries of the call's own, each with lines in a block apart -/
structure Pack (w : World) (B : Nat) (v : Value) (es : List Ent) : Prop where
  own : Own w B 57 4 Ent.enc v es
  all : ∀ e, e ∈ es → Rd w 3 lineEnc e.A e.n e.lines ∧ e.n ≤ 20 ∧ ∃ b off, e.A = some ⟨b, off, none⟩ ∧ b < w.heap.size ∧ v.ownBlock ≠ some b
section
variable {w w' : World} {B : Nat} {v v' : Value} {es : List Ent}
theorem Pack.nil (w : World) (B : Nat) : Pack w B (.slice none 0 0) [] := ⟨Own.nil _ _ _ _ _, fun e he => by cases he⟩
theorem Pack.below (h : Pack w B v es) (hb : Below w.heap.size w w') : Pack w' B v es :=
  ⟨h.own.below hb, fun e he => by
    obtain ⟨h1, h2, b, off, h3, h4, h5⟩ := h.all e he
    exact ⟨h1.below hb, h2, b, off, h3, Nat.lt_of_lt_of_le h4 hb.size, h5⟩⟩
theorem Pack.push (h : Pack w B v es) {e : Ent} (hown : Own w' B 57 4 Ent.enc v' (es ++ [e])) (hg : w.grownBy w' v.ownBlock) (hat : v'.ownBlock = v.ownBlock ∨ v'.ownBlock = some w.heap.size)
    (h1 : Rd w 3 lineEnc e.A e.n e.lines) (h2 : e.n ≤ 20) {b off : Nat} (h3 : e.A = some ⟨b, off, none⟩) (h4 : b < w.heap.size) (h5 : v.ownBlock ≠ some b) : Pack w' B v' (es ++ [e]) := by
  refine ⟨hown, fun x hx => ?_⟩
  have key : ∀ x : Ent, (Rd w 3 lineEnc x.A x.n x.lines ∧ x.n ≤ 20 ∧ ∃ b off, x.A = some ⟨b, off, none⟩ ∧ b < w.heap.size ∧ v.ownBlock ≠ some b) → Rd w' 3 lineEnc x.A x.n x.lines ∧ x.n ≤ 20 ∧ ∃ b off, x.A = some ⟨b, off, none⟩ ∧ b < w'.heap.size ∧ v'.ownBlock ≠ some b := by
    rintro x ⟨h1, h2, b, off, h3, h4, h5⟩
    refine ⟨h1.grownX hg fun b2 o2 s e => ?_, h2, b, off, h3, Nat.lt_of_lt_of_le h4 hg.size, ?_⟩
    · rw [h3] at e
      injection e with e
      injection e with e1
      subst e1
      exact fun e => h5 e.symm
    · rcases hat with e | e
      · rw [e]; exact h5
      · rw [e]; intro e2; injection e2 with e2; omega
  rcases List.mem_append.1 hx with hx | hx
  · exact key x (h.all x hx)
  · have : x = e := by simpa using hx
    subst this
    exact key x ⟨h1, h2, b, off, h3, h4, h5⟩
end
theorem two_bnd {x : Core} (h : TwoLine x) : Bnd 1000000000000000 x.2.2.2 ∧ ∀ y, y ∈ canon (x.2.2.2.map blank) → y.amt = 0 := by
  obtain ⟨a, d, cur, n, e, h1, h2⟩ := h
  rw [e]
  refine ⟨fun y hy => ?_, canon_even a d cur n⟩
  rcases List.mem_cons.1 hy with rfl | hy
  · show -1000000000000000 ≤ -n ∧ -n ≤ 1000000000000000
    omega
  · obtain rfl := List.mem_singleton.1 hy
    exact ⟨h1, h2⟩

theorem entEnc_okA : Enc 4 Ent.enc := ⟨fun _ => rfl, by
  intro a u hu
  simp only [Ent.enc, List.mem_cons, List.not_mem_nil, or_false] at hu
  rcases hu with rfl | rfl | rfl | rfl <;> rfl⟩
def zeroEntA : Value := .agg #[.string ⟨#[]⟩, .int .i64 0, .int .i64 0, .slice none 0 0]
theorem ent_infoA : (Tryz.prog.info? 57).map (fun i => (i.zero, i.size, i.bytes)) = some (some zeroEntA, 4, 56) := by kernel_rfl
theorem step_pushE {P : Program} (w : World) {α : Type} {enc : α → List Value} {ops : Array Oper} {o : Oper} {a : Act} {K : Act → World → Prop} {Q : Exit → Act → World → Prop} {E : Prop} (hgd : o.guard = none) (s x : Operand) (t : TypeId)
    (ho : o.op = .call { callee := .builtin .append, args := #[s, x], argTypes := #[t, t] })
    (B : Nat) (e : TypeId) (i : TypeInfo) (z : Value) (sz bytes : Nat) (ht : P.underlying t = some (.slice e)) (hi : P.info? e = some i) (hz : i.zero = some z)
    (hsize : i.size = sz) (hby : i.bytes = bytes) (hzs : z.cells.size = sz) (hsz : 0 < sz) (he : Enc sz enc) (v : Value) (l : List α) (hs : a.eval s = v) (hown : Own w B e sz enc v l)
    (A : Option Addr) (m c : Nat) (ys : List α) (hx : a.eval x = .slice A m c) (hr : Rd w sz enc A m ys) (hA : A = none → c = 0)
    (h63 : l.length + m ≤ maxLen) (hbytes : (l.length + m) * bytes ≤ 140737488355328) (hbase : B ≤ w.heap.size)
    (h : ∀ v' w', Own w' B e sz enc v' (l ++ ys) → w.grownBy w' v.ownBlock → (v'.ownBlock = v.ownBlock ∨ v'.ownBlock = some w.heap.size) → K (a.put o.dst v') w') :
    if Region.wanted o (yielded ops a.tmps) = true then Oper.wp P o a w K Q else E := by
  have hw : Region.wanted o (yielded ops a.tmps) = true := by simp [Region.wanted, hgd]
  rw [if_pos hw]
  exact wp_push w s x t ho B e i z sz bytes ht hi hz hsize hby hzs hsz he v l hs hown A m c ys hx hr hA h63 hbytes hbase h

end Go.Proofs.YtbdbpcllndajgaaGreatDoor
