/- Trial: what its loops need in plain words. -/
import Derived.Test.YtjojjicpdfmopaaGreatDoorTrlS
import Derived.Test.YtjojjicpdfmopaaGreatDoorTrlB
import Derived.Test.YtjojjicpdfmopaaGreatDoorStrZ
namespace Go.Proofs.YtjojjicpdfmopaaGreatDoor
open Go Go.RowKit
set_option linter.unusedVariables false

theorem int_infoT : (Tryz.prog.info? 3).map (fun i => (i.zero, i.size, i.bytes)) = some (some (.int .i64 0), 1, 8) := by kernel_rfl
/-- all is well -/
def trGood (c : List Acc) (S : List Bal) (e : Int) : Prop := rcE c S e = 0 ∧ found c e S ∧ ∀ k, k ∈ curIn e S → sumOk e S k
/-- what Trial hands back -/
def TrPost (c : List Acc) (S : List Bal) (e : Int) (p : Nat) (r : Value) : Prop :=
  (∃ n, n ≠ 0 ∧ r = .tuple #[.string ⟨#[]⟩, errV n] ∧ ¬ trGood c S e) ∨ (trGood c S e ∧ ∃ ks : List ByteArray, ks.Perm (curIn e S) ∧ r = .tuple #[.string ⟨(accT c p e S ++ totT p e S ks).toArray⟩, .nilIface])

def debF (e : Int) (S : List Bal) (y : ByteArray) : List Int := debs e y S
def creF (e : Int) (S : List Bal) (y : ByteArray) : List Int := creds e y S
section
variable {c : List Acc} {p : Nat} {e : Int} {S : List Bal} {k : Nat}
theorem take_step (hk : k < S.length) : S.take (k + 1) = S.take k ++ [S[k]] := by rw [List.take_succ_eq_append_getElem hk]
theorem debF_not {x : Bal} (h : x.ent ≠ e) : debF e (S ++ [x]) = debF e S := by
  funext y; unfold debF; rw [debs_snoc, if_neg (fun h2 => h h2.1), List.append_nil]
theorem creF_not {x : Bal} (h : x.ent ≠ e) : creF e (S ++ [x]) = creF e S := by
  funext y; unfold creF; rw [creds_snoc, if_neg (fun h2 => h h2.1), List.append_nil]
theorem curIn_not {x : Bal} (h : x.ent ≠ e) : curIn e (S ++ [x]) = curIn e S := by rw [curIn_snoc, curAdd, if_neg h]
theorem curIn_old {x : Bal} (h : x.ent = e) (h2 : x.cur ∈ curIn e S) : curIn e (S ++ [x]) = curIn e S := by rw [curIn_snoc, curAdd, if_pos h, if_pos h2]
theorem curIn_new {x : Bal} (h : x.ent = e) (h2 : x.cur ∉ curIn e S) : curIn e (S ++ [x]) = curIn e S ++ [x.cur] := by rw [curIn_snoc, curAdd, if_pos h, if_neg h2]
theorem debF_none {y : ByteArray} (h : y ∉ curIn e S) : debF e S y = [] := debs_none fun x hx he hy => h ((curIn_mem e S y).2 ⟨x, hx, he, hy⟩)
theorem creF_none {y : ByteArray} (h : y ∉ curIn e S) : creF e S y = [] := creds_none fun x hx he hy => h ((curIn_mem e S y).2 ⟨x, hx, he, hy⟩)
theorem debF_on {x : Bal} (h : x.ent = e) (h2 : ¬ x.amt < 0) : debF e (S ++ [x]) x.cur = debF e S x.cur ++ [x.amt] := by unfold debF; rw [debs_snoc, if_pos ⟨h, rfl, h2⟩]
theorem debF_off {x : Bal} (h2 : x.amt < 0) (y : ByteArray) : debF e (S ++ [x]) y = debF e S y := by unfold debF; rw [debs_snoc, if_neg (fun h => h.2.2 h2), List.append_nil]
theorem debF_ne {x : Bal} {y : ByteArray} (h : y ≠ x.cur) : debF e (S ++ [x]) y = debF e S y := by unfold debF; rw [debs_snoc, if_neg (fun h3 => h h3.2.1.symm), List.append_nil]
theorem creF_on {x : Bal} (h : x.ent = e) (h2 : x.amt < 0) : creF e (S ++ [x]) x.cur = creF e S x.cur ++ [-x.amt] := by unfold creF; rw [creds_snoc, if_pos ⟨h, rfl, h2⟩]
theorem creF_off {x : Bal} (h2 : ¬ x.amt < 0) (y : ByteArray) : creF e (S ++ [x]) y = creF e S y := by unfold creF; rw [creds_snoc, if_neg (fun h => h2 h.2.2), List.append_nil]
theorem creF_ne {x : Bal} {y : ByteArray} (h : y ≠ x.cur) : creF e (S ++ [x]) y = creF e S y := by unfold creF; rw [creds_snoc, if_neg (fun h3 => h h3.2.1.symm), List.append_nil]
theorem curIn_len : (curIn e S).length ≤ S.length := by
  refine snocI (P := fun S => (curIn e S).length ≤ S.length) (by simp [curIn]) (fun S x ih => ?_) S
  rw [curIn_snoc, List.length_append, List.length_singleton]
  unfold curAdd
  split
  · split
    · omega
    · rw [List.length_append, List.length_singleton]; omega
  · omega

/-! how long the text is -/
theorem showL_len {x p : Nat} (hx : x ≤ 9223372036854775807) (hp : p ≤ 6) : (showL x p).length ≤ 40 := by
  have h1 : (Lib.decDigits x).length ≤ 20 := by
    rw [Lib.decDigits_length]
    exact nDigits_le (Nat.lt_of_le_of_lt hx (by decide)) (by omega)
  unfold showL
  split
  · rw [List.length_append, List.length_replicate]; omega
  · simp only [List.length_append, List.length_cons, List.length_take, List.length_drop, List.length_replicate]; omega
theorem join_len : ∀ (l : List (List UInt8)) (z : Nat), (∀ a, a ∈ l → a.length ≤ z) → (joinL l).length ≤ (z + 1) * l.length
  | [], z, _ => by simp [joinL]
  | [a], z, h => by
    have := h a (List.mem_singleton.2 rfl)
    simp only [joinL, List.length_singleton]; omega
  | a :: b :: l, z, h => by
    have h1 := h a (by simp)
    have h2 := join_len (b :: l) z fun x hx => h x (List.mem_cons_of_mem _ hx)
    show (a ++ 32 :: joinL (b :: l)).length ≤ _
    rw [List.length_append, List.length_cons, List.length_cons (a := a), Nat.mul_add]
    omega
/-- the words of a balance's line -/
def balW (p : Nat) (x : Bal) (nm : ByteArray) : List ByteArray := [x.acc, nm, x.cur, ⟨#[if x.amt < 0 then 67 else 68]⟩, showS x.amt.natAbs p]
theorem balW_eq (c : List Acc) (p : Nat) (x : Bal) (nm : ByteArray) : wordsL (balW p x nm) = balL c p x nm := rfl
def totW (p : Nat) (e : Int) (S : List Bal) (k : ByteArray) : List ByteArray := [⟨#[116, 111, 116, 97, 108]⟩, k, showS (debs e k S).sum.toNat p, showS (creds e k S).sum.toNat p]
theorem totW_eq (p : Nat) (e : Int) (S : List Bal) (k : ByteArray) : wordsL (totW p e S k) = totL p e S k := rfl
/-- nothing is too long -/
def Sized (c : List Acc) (S : List Bal) : Prop := (∀ x, x ∈ S → x.acc.size ≤ 1048576 ∧ x.cur.size ≤ 1048576 ∧ x.amt.natAbs ≤ 9223372036854775807) ∧ ∀ a, a ∈ c → a.name.size ≤ 1048576
theorem name_len (h : ∀ a, a ∈ c → a.name.size ≤ 1048576) (y : ByteArray) : (accName c y).size ≤ 1048576 := by
  unfold accName
  split
  · split
    · rename_i a ha
      exact h a (List.mem_of_getElem? ha)
    · exact Nat.zero_le _
  · exact Nat.zero_le _
theorem balL_len {x : Bal} {nm : ByteArray} (h1 : x.acc.size ≤ 1048576) (h2 : x.cur.size ≤ 1048576) (h3 : nm.size ≤ 1048576) (h4 : x.amt.natAbs ≤ 9223372036854775807) (hp : p ≤ 6) : (joinL (balL c p x nm)).length ≤ 5242885 := by
  refine Nat.le_trans (join_len (balL c p x nm) 1048576 ?_) (show (1048576 + 1) * 5 ≤ 5242885 from by decide)
  intro a ha
  unfold balL at ha
  simp only [List.mem_cons, List.not_mem_nil, or_false] at ha
  rcases ha with rfl | rfl | rfl | rfl | rfl
  · rw [Array.length_toList]; exact h1
  · rw [Array.length_toList]; exact h3
  · rw [Array.length_toList]; exact h2
  · simp
  · have := showL_len (p := p) h4 hp; omega
theorem accT_len (h : Sized c S) (hp : p ≤ 6) : (accT c p e S).length ≤ S.length * 5300000 := by
  have key : ∀ l : List Bal, (∀ x, x ∈ l → x ∈ S) → (accT c p e l).length ≤ l.length * 5300000 := by
    intro l
    refine snocI (P := fun l => (∀ x, x ∈ l → x ∈ S) → (accT c p e l).length ≤ l.length * 5300000) (by simp [accT, ownE]) (fun l x ih hs => ?_) l
    have h0 := ih fun y hy => hs y (List.mem_append_left _ hy)
    rw [List.length_append, List.length_singleton]
    by_cases he : x.ent = e
    · rw [accT_own he, List.length_append]
      obtain ⟨a1, a2, a3⟩ := h.1 x (hs x (by simp))
      have := balL_len (c := c) a1 a2 (name_len h.2 x.acc) a3 hp
      unfold lineL
      rw [List.length_append, List.length_singleton]
      omega
    · rw [accT_not he]; exact Nat.le_trans h0 (Nat.mul_le_mul_right _ (Nat.le_succ _))
  exact key S fun _ hx => hx
theorem totL_len {y : ByteArray} (h : y.size ≤ 1048576) (hs : sumOk e S y) (hp : p ≤ 6) : (joinL (totL p e S y)).length ≤ 5242885 := by
  have h1 := hs.1
  have h2 := hs.2
  have n1 := debs_nonneg (e := e) (k := y) (S := S)
  have n2 := creds_nonneg (e := e) (k := y) (S := S)
  unfold in64 at h1 h2
  simp only [Bool.and_eq_true, decide_eq_true_eq] at h1 h2
  refine Nat.le_trans (join_len (totL p e S y) 1048576 ?_) (show (1048576 + 1) * 4 ≤ 5242885 from by decide)
  intro a ha
  unfold totL at ha
  simp only [List.mem_cons, List.not_mem_nil, or_false] at ha
  rcases ha with rfl | rfl | rfl | rfl
  · simp
  · rw [Array.length_toList]; exact h
  · have := showL_len (x := (debs e y S).sum.toNat) (p := p) (by omega) hp; omega
  · have := showL_len (x := (creds e y S).sum.toNat) (p := p) (by omega) hp; omega
theorem totT_len {ks : List ByteArray} (h : ∀ y, y ∈ ks → y.size ≤ 1048576 ∧ sumOk e S y) (hp : p ≤ 6) : (totT p e S ks).length ≤ ks.length * 5300000 := by
  induction ks with
  | nil => simp [totT]
  | cons y ks ih =>
    have h1 := h y (List.mem_cons_self ..)
    have h2 := ih fun z hz => h z (List.mem_cons_of_mem _ hz)
    have h3 := totL_len h1.1 h1.2 hp
    unfold totT at h2 ⊢
    rw [List.flatMap_cons, List.length_append, List.length_cons, Nat.add_mul]
    unfold lineL at h2 ⊢
    rw [List.length_append, List.length_singleton]
    omega
end
theorem sized_take {c : List Acc} {S : List Bal} (h : Sized c S) (k : Nat) : Sized c (S.take k) := ⟨fun x hx => h.1 x (List.mem_of_mem_take hx), h.2⟩
theorem balsE_may {l : List Bal} (h : balsE l = 0) : ∀ x, x ∈ l → mayB x.amt = true := by
  intro x hx
  obtain ⟨k, hk, rfl⟩ := List.getElem_of_mem hx
  have h2 : firstE (balE l) l.length = 0 := by
    unfold balsE at h
    split at h
    · cases h
    · exact h
  have h3 := firstE_0 h2 k hk
  cases hm : mayB l[k].amt with
  | true => rfl
  | false =>
    by_cases ho : ordB l k = true
    · rw [balE_2 ho hk hm] at h3; cases h3
    · rw [balE_1 (by simpa using ho)] at h3; cases h3
/-- block g is the variable of the loop -/
def Bx (w : World) (g : Nat) (e : Int) (x : Bal) : Prop := w.heap[g]? = some (.cells #[.int .i64 e, .string x.acc, .string x.cur, .int .i64 x.amt] 30 (0, 0))
section
variable {w w' : World} {g : Nat} {e : Int} {x : Bal}
theorem Bx.lt (h : Bx w g e x) : g < w.heap.size := (Array.getElem?_eq_some_iff.1 h).1
theorem Bx.made (w : World) (e : Int) (x : Bal) : Bx (w.alloc (.cells #[.int .i64 e, .string x.acc, .string x.cur, .int .i64 x.amt] 30)) w.heap.size e x := heap_alloc_new w _
theorem Bx.below (h : Bx w g e x) (hb : Below w.heap.size w w') : Bx w' g e x := (hb.block g h.lt).trans h
theorem Bx.grown {row : Option Nat} (h : Bx w g e x) (hg : w.grownBy w' row) (hr : row ≠ some g) : Bx w' g e x := (hg.block g h.lt fun e => hr e.symm).trans h
theorem Bx.cells (h : Bx w g e x) : w.cell? ⟨g, 0, none⟩ = some (.int .i64 e) ∧ w.cell? ⟨g, 1, none⟩ = some (.string x.acc) ∧ w.cell? ⟨g, 2, none⟩ = some (.string x.cur) ∧ w.cell? ⟨g, 3, none⟩ = some (.int .i64 x.amt) := by
  unfold Bx at h
  refine ⟨?_, ?_, ?_, ?_⟩ <;> (rw [Lib.cell_of_heap h]; rfl)
end
/-- the loop's variable is none of these -/
def Asd (g G : Nat) (v0 v1 : Value) : Prop := G ≠ g ∧ v0.ownBlock ≠ some g ∧ v1.ownBlock ≠ some g
theorem TAt.asd {w : World} {B b M G g : Nat} {vk v0 v1 : Value} {ks kk : List ByteArray} {D C : ByteArray → List Int} {t : List UInt8} {k : ByteArray} (h : TAt w B b M vk ks kk D C t k G v0 v1) (hg : w.heap.size ≤ g) : Asd g G v0 v1 :=
  ⟨fun e => by have := h.cells.2.2.2.2.2; omega, fun e => by have := (h.deb.block g e).2; omega, fun e => by have := (h.cre.block g e).2; omega⟩
/-- a line is written: what the region needs behind it -/
theorem st_step {w2 w6 : World} {M n g cb co : Nat} {vk : Value} {ks kk : List ByteArray} {D C : ByteArray → List Int} {t : List UInt8} {e : Int} {x : Bal} {nm : ByteArray} (ss : List ByteArray) (h : St w6 w2.heap.size w2.heap.size M vk ks kk D C t) (hB6 : Below w2.heap.size w2 w6) (hn : ss.length = n) (h0 : 0 < n) (h10 : n ≤ 10) (hl : (joinL (wordsL ss)).length ≤ 1000000000) (hlt : t.length ≤ 100000000000000)
    (hbx : Bx w6 g e x) (hgb : g ≠ w2.heap.size) (hcb : cb < w2.heap.size) (hz : w6.cell? ⟨cb, co, none⟩ = some (.string nm)) :
    ∀ W : World, Below w6.heap.size w6 W → Rd W 1 strEnc (some ⟨w6.heap.size, 0, none⟩) n ss → Calls Tryz.prog 9 #[.slice (some ⟨w6.heap.size, 0, none⟩) n n, .pointer (some ⟨w2.heap.size, 0, none⟩)] W fun en w' =>
      en = .returned (.tuple #[]) ∧ Hid (St w' w2.heap.size w2.heap.size M vk ks kk D C (t ++ lineL (wordsL ss)) ∧ Below w2.heap.size w2 w') ∧ w'.cell? ⟨g, 1, none⟩ = some (.string x.acc) ∧ w'.cell? ⟨g, 2, none⟩ = some (.string x.cur) ∧ w'.cell? ⟨cb, co, none⟩ = some (.string nm) := by
  intro W hW hR
  have hB7 := bthen hB6 (Nat.le_refl _) hW
  refine (st_line ss w6.heap.size n (h.below hW) hn h0 h10 hR hB7.size hl hlt).mono ?_
  rintro en w8 ⟨rfl, hS8, hB8, hk8⟩
  have hbx8 : Bx w8 g e x := hk8 g _ _ _ hgb (by decide) (hbx.below hW)
  exact ⟨rfl, ⟨hS8, hB7.trans hB8⟩, hbx8.cells.2.1, hbx8.cells.2.2.1, below_cell hB8 hcb (below_cell hW (Nat.lt_of_lt_of_le hcb hB6.size) hz)⟩
theorem st_step2 {w2 w6 : World} {M n g : Nat} {vk a b : Value} {ks kk : List ByteArray} {D C : ByteArray → List Int} {t : List UInt8} {cur : Array Value} (ss : List ByteArray) (h : St w6 w2.heap.size w2.heap.size M vk ks kk D C t) (hB6 : Below w2.heap.size w2 w6) (hn : ss.length = n) (h0 : 0 < n) (h10 : n ≤ 10) (hl : (joinL (wordsL ss)).length ≤ 1000000000) (hlt : t.length ≤ 100000000000000)
    (hg : w6.heap[g]? = some (.cells cur 9 (0, 0))) (hgb : g ≠ w2.heap.size) (ha : w6.cell? ⟨g, 0, none⟩ = some a) (hb : w6.cell? ⟨g, 1, none⟩ = some b) :
    ∀ W : World, Below w6.heap.size w6 W → Rd W 1 strEnc (some ⟨w6.heap.size, 0, none⟩) n ss → Calls Tryz.prog 9 #[.slice (some ⟨w6.heap.size, 0, none⟩) n n, .pointer (some ⟨w2.heap.size, 0, none⟩)] W fun en w' =>
      en = .returned (.tuple #[]) ∧ Hid (St w' w2.heap.size w2.heap.size M vk ks kk D C (t ++ lineL (wordsL ss)) ∧ Below w2.heap.size w2 w') ∧ w'.cell? ⟨g, 0, none⟩ = some a ∧ w'.cell? ⟨g, 1, none⟩ = some b := by
  intro W hW hR
  have hB7 := bthen hB6 (Nat.le_refl _) hW
  have hgl : g < w6.heap.size := (Array.getElem?_eq_some_iff.1 hg).1
  refine (st_line ss w6.heap.size n (h.below hW) hn h0 h10 hR hB7.size hl hlt).mono ?_
  rintro en w8 ⟨rfl, hS8, hB8, hk8⟩
  have hg7 := (hW.block g hgl).trans hg
  have hg8 := hk8 g _ _ _ hgb (by decide) hg7
  exact ⟨rfl, ⟨hS8, hB7.trans hB8⟩, (World.cell?_of_block (a := ⟨g, 0, none⟩) (hg8.trans hg.symm)).trans ha, (World.cell?_of_block (a := ⟨g, 1, none⟩) (hg8.trans hg.symm)).trans hb⟩
theorem totT_snoc {p : Nat} {e : Int} {S : List Bal} {ks : List ByteArray} {y : ByteArray} : totT p e S (ks ++ [y]) = totT p e S ks ++ lineL (totL p e S y) := by
  unfold totT; rw [List.flatMap_append]; simp
theorem in64_nat {x : Int} (h : in64 x = true) (h0 : 0 ≤ x) : smV x = ((x.toNat : Nat) : Int) ∧ errV (smE x) = .nilIface ∧ x.toNat ≤ 9223372036854775807 := by
  refine ⟨by rw [smV, if_pos h]; exact (Int.toNat_of_nonneg h0).symm, errV_0 (if_pos h), ?_⟩
  unfold in64 at h
  simp only [Bool.and_eq_true, decide_eq_true_eq] at h
  omega
theorem in64_bad {x : Int} (h : ¬ in64 x = true) : errV (smE x) = .iface 49 (.int .i64 10) := by
  rw [show smE x = 10 from if_neg h]; rfl
end Go.Proofs.YtjojjicpdfmopaaGreatDoor
