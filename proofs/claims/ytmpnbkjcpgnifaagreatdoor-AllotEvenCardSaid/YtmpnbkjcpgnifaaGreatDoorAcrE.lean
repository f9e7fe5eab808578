/- Entries that are made a part at a time: how they lie; daylaw3.zero of entries of two lines: true. -/
import Derived.Test.YtmpnbkjcpgnifaaGreatDoorOpenY
import Derived.Test.YtmpnbkjcpgnifaaGreatDoorRefX
namespace Go.Proofs.YtmpnbkjcpgnifaaGreatDoor
open Go Go.RowKit
set_option linter.unusedVariables false

def Ent.core (e : Ent) : ByteArray × Int × Int × List Line := (e.ref, e.ent, e.per, e.lines)
abbrev Core := ByteArray × Int × Int × List Line
/-- an entry of two lines of as much, one on each side -/
def TwoLine (x : Core) : Prop := ∃ a d cur n, x.2.2.2 = [⟨a, cur, -n⟩, ⟨d, cur, n⟩] ∧ -1000000000000000 ≤ n ∧ n ≤ 1000000000000000
theorem canon_even (a d cur : ByteArray) (n : Int) : ∀ y, y ∈ canon (([⟨a, cur, -n⟩, ⟨d, cur, n⟩] : List Line).map blank) → y.amt = 0 := by
  intro y hy
  have e : canon (([⟨a, cur, -n⟩, ⟨d, cur, n⟩] : List Line).map blank) = [⟨⟨#[]⟩, cur, -n + n⟩] := by
    show ins (ins [] (blank ⟨a, cur, -n⟩)) (blank ⟨d, cur, n⟩) = _
    rw [ins, ins, if_neg (by rw [show (blank ⟨a, cur, -n⟩).key = (blank ⟨d, cur, n⟩).key from rfl, Key.irrefl]; decide), if_pos (show (blank ⟨a, cur, -n⟩).key = (blank ⟨d, cur, n⟩).key from rfl)]
    rfl
  rw [e] at hy
  obtain rfl := List.mem_singleton.1 hy
  show -n + n = 0
  omega
theorem Rd.grownX {α : Type} {enc : α → List Value} {w w' : World} {sz n : Nat} {A : Option Addr} {l : List α} {row : Option Nat} (h : Rd w sz enc A n l) (hg : w.grownBy w' row) (hne : ∀ b off s, A = some ⟨b, off, s⟩ → some b ≠ row) : Rd w' sz enc A n l := by
  refine ⟨h.1, fun hn => ?_⟩
  obtain ⟨b, off, e, hc⟩ := h.2 hn
  exact ⟨b, off, e, fun i j u hi hu => hg.cell (hc i j u hi hu) (hne b off _ e)⟩
/-- entries of the call's own, each with lines in a block apart -/
structure Pack (w : World) (B : Nat) (v : Value) (es : List Ent) : Prop where
  own : Own w B 40 4 Ent.enc v es
  all : ∀ e, e ∈ es → Rd w 3 lineEnc e.A e.n e.lines ∧ e.n ≤ 20 ∧ ∃ b off, e.A = some ⟨b, off, none⟩ ∧ b < w.heap.size ∧ v.ownBlock ≠ some b
section
variable {w w' : World} {B : Nat} {v v' : Value} {es : List Ent}
theorem Pack.nil (w : World) (B : Nat) : Pack w B (.slice none 0 0) [] := ⟨Own.nil _ _ _ _ _, fun e he => by cases he⟩
theorem Pack.below (h : Pack w B v es) (hb : Below w.heap.size w w') : Pack w' B v es :=
  ⟨h.own.below hb, fun e he => by
    obtain ⟨h1, h2, b, off, h3, h4, h5⟩ := h.all e he
    exact ⟨h1.below hb, h2, b, off, h3, Nat.lt_of_lt_of_le h4 hb.size, h5⟩⟩
theorem Pack.push (h : Pack w B v es) {e : Ent} (hown : Own w' B 40 4 Ent.enc v' (es ++ [e])) (hg : w.grownBy w' v.ownBlock) (hat : v'.ownBlock = v.ownBlock ∨ v'.ownBlock = some w.heap.size)
    (h1 : Rd w 3 lineEnc e.A e.n e.lines) (h2 : e.n ≤ 20) {b off : Nat} (h3 : e.A = some ⟨b, off, none⟩) (h4 : b < w.heap.size) (h5 : v.ownBlock ≠ some b) : Pack w' B v' (es ++ [e]) := by
  refine ⟨hown, fun x hx => ?_⟩
  have key : ∀ x : Ent, (Rd w 3 lineEnc x.A x.n x.lines ∧ x.n ≤ 20 ∧ ∃ b off, x.A = some ⟨b, off, none⟩ ∧ b < w.heap.size ∧ v.ownBlock ≠ some b) → Rd w' 3 lineEnc x.A x.n x.lines ∧ x.n ≤ 20 ∧ ∃ b off, x.A = some ⟨b, off, none⟩ ∧ b < w'.heap.size ∧ v'.ownBlock ≠ some b := by
    rintro x ⟨h1, h2, b, off, h3, h4, h5⟩
    refine ⟨h1.grownX hg fun b2 o2 s e => ?_, h2, b, off, h3, Nat.lt_of_lt_of_le h4 hg.size, ?_⟩
    · rw [h3] at e
      injection e with e
      injection e with e1
      subst e1
      exact fun e => h5 e.symm
    · rcases hat with e | e
      · rw [e]; exact h5
      · rw [e]; intro e2; injection e2 with e2; omega
  rcases List.mem_append.1 hx with hx | hx
  · exact key x (h.all x hx)
  · have : x = e := by simpa using hx
    subst this
    exact key x ⟨h1, h2, b, off, h3, h4, h5⟩
end
theorem two_bnd {x : Core} (h : TwoLine x) : Bnd 1000000000000000 x.2.2.2 ∧ ∀ y, y ∈ canon (x.2.2.2.map blank) → y.amt = 0 := by
  obtain ⟨a, d, cur, n, e, h1, h2⟩ := h
  rw [e]
  refine ⟨fun y hy => ?_, canon_even a d cur n⟩
  rcases List.mem_cons.1 hy with rfl | hy
  · show -1000000000000000 ≤ -n ∧ -n ≤ 1000000000000000
    omega
  · obtain rfl := List.mem_singleton.1 hy
    exact ⟨h1, h2⟩

set_option maxHeartbeats 1000000 in
set_option maxRecDepth 100000 in
theorem zero_any (es : List Ent) (A : Option Addr) (n c : Nat) (w : World) (hn : n ≤ 9223372036854775807) (ha : Rd w 4 Ent.enc A n es) (h1 : ∀ e, e ∈ es → Rd w 3 lineEnc e.A e.n e.lines ∧ e.n ≤ 20) (h2 : ∀ e, e ∈ es → TwoLine (Ent.core e)) :
    Calls Tryz.prog 6 #[.slice A n c] w fun e w' => e = .returned (.bool true) ∧ Below w.heap.size w w' := by
  have Hn := hide ha.1
  go_enter Tryz.func6, Tryz.ntmps6
  go_wp2_with fail
  go_loopw [3] (fun iv wr => ∃ k : Nat, k ≤ n ∧ iv = .int .i64 k ∧ Below w.heap.size w wr) (fun iv _ => n - (intOf iv).toNat)
  case atStart => exact ⟨0, by omega, rfl, Below.refl _ _⟩
  case round =>
    obtain ⟨k, hk, rfl, hbr⟩ := hrel
    by_cases hlt : k < n
    · have hkl : k < es.length := by have := Hn.out; omega
      obtain ⟨b, off, rfl, hcs⟩ := (Rd.below ha hbr).2 (by omega)
      have q0 := hcs k 0 _ hkl rfl
      have q1 := hcs k 1 _ hkl rfl
      have q2 := hcs k 2 _ hkl rfl
      have q3 := hcs k 3 _ hkl rfl
      rw [Nat.add_zero] at q0
      clear hcs
      obtain ⟨hx1, hx2⟩ := h1 _ (List.getElem_mem hkl)
      obtain ⟨hb1, hz⟩ := two_bnd (h2 _ (List.getElem_mem hkl))
      have k0 : (0 : Int) ≤ (k : Int) := by omega
      have k1 : (k : Int) < (n : Int) := by omega
      have hb1 : Bnd 1000000000000000 es[k].lines := hb1
      have hz : ∀ y, y ∈ canon (es[k].lines.map blank) → y.amt = 0 := hz
      go_wp2_with fail
      refine (refSums_ok es[k].ref es[k].ent es[k].per es[k].lines _ _ _ _ (hx1.below hbr) hx2 hb1).mono ?_
      rintro e w4 ⟨v4, rfl, hown4, hb4⟩
      obtain ⟨VA, vc, rfl, hvc, hvm⟩ := hown4.form
      have hrd := hown4.rd lineEnc_ok
      generalize canon (es[k].lines.map blank) = cl at hown4 hvc hrd hz ⊢
      have hcl : cl.length ≤ 9223372036854775807 := by unfold maxLen at hvm; omega
      go_wp2_with fail
      go_loopw [5] (fun jv wi => ∃ j : Nat, j ≤ cl.length ∧ jv = .int .i64 j ∧ Below w4.heap.size w4 wi) (fun jv _ => cl.length - (intOf jv).toNat)
      case atStart => exact ⟨0, by omega, rfl, Below.refl _ _⟩
      case round =>
        obtain ⟨j, hj, rfl, hbi⟩ := hrel
        by_cases hjl : j < cl.length
        · obtain ⟨g, off2, rfl, hcs⟩ := (hrd.below hbi).2 (by omega)
          have s2 := hcs j 2 _ hjl rfl
          clear hcs
          have j0 : (0 : Int) ≤ (j : Int) := by omega
          have j1 : (j : Int) < (cl.length : Int) := by omega
          rw [hz _ (List.getElem_mem hjl)] at s2
          go_wp2_with fail
          go_roundw
          case rel => exact ⟨j + 1, by omega, by go_num, hbi⟩
          case measure => simp [intOf]; omega
        · go_wp2_with fail
          go_roundw
          case rel => exact ⟨k + 1, by omega, by go_num, hbr.trans ((hb4.trans (hbi.mono hb4.size)).mono hbr.size)⟩
          case measure => simp [intOf]; omega
    · go_wp2_with fail
      go_ret
      exact ⟨rfl, hbr⟩
theorem entEnc_okA : Enc 4 Ent.enc := ⟨fun _ => rfl, by
  intro a u hu
  simp only [Ent.enc, List.mem_cons, List.not_mem_nil, or_false] at hu
  rcases hu with rfl | rfl | rfl | rfl <;> rfl⟩
def zeroEntA : Value := .agg #[.string ⟨#[]⟩, .int .i64 0, .int .i64 0, .slice none 0 0]
theorem ent_infoA : (Tryz.prog.info? 40).map (fun i => (i.zero, i.size, i.bytes)) = some (some zeroEntA, 4, 56) := by kernel_rfl
theorem step_pushE {P : Program} (w : World) {α : Type} {enc : α → List Value} {ops : Array Oper} {o : Oper} {a : Act} {K : Act → World → Prop} {Q : Exit → Act → World → Prop} {E : Prop} (hgd : o.guard = none) (s x : Operand) (t : TypeId)
    (ho : o.op = .call { callee := .builtin .append, args := #[s, x], argTypes := #[t, t] })
    (B : Nat) (e : TypeId) (i : TypeInfo) (z : Value) (sz bytes : Nat) (ht : P.underlying t = some (.slice e)) (hi : P.info? e = some i) (hz : i.zero = some z)
    (hsize : i.size = sz) (hby : i.bytes = bytes) (hzs : z.cells.size = sz) (hsz : 0 < sz) (he : Enc sz enc) (v : Value) (l : List α) (hs : a.eval s = v) (hown : Own w B e sz enc v l)
    (A : Option Addr) (m c : Nat) (ys : List α) (hx : a.eval x = .slice A m c) (hr : Rd w sz enc A m ys) (hA : A = none → c = 0)
    (h63 : l.length + m ≤ maxLen) (hbytes : (l.length + m) * bytes ≤ 140737488355328) (hbase : B ≤ w.heap.size)
    (h : ∀ v' w', Own w' B e sz enc v' (l ++ ys) → w.grownBy w' v.ownBlock → (v'.ownBlock = v.ownBlock ∨ v'.ownBlock = some w.heap.size) → K (a.put o.dst v') w') :
    if Region.wanted o (yielded ops a.tmps) = true then Oper.wp P o a w K Q else E := by
  have hw : Region.wanted o (yielded ops a.tmps) = true := by simp [Region.wanted, hgd]
  rw [if_pos hw]
  exact wp_push w s x t ho B e i z sz bytes ht hi hz hsize hby hzs hsz he v l hs hown A m c ys hx hr hA h63 hbytes hbase h

end Go.Proofs.YtmpnbkjcpgnifaaGreatDoor
